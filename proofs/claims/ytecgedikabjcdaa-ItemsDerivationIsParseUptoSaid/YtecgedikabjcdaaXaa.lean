/- The D-machine, part A: pure tree values, slot values, named objects, and how they are related to the model's values in a world. Conditions: none. -/
import Derived.CallsIn
import Derived.Below
import Derived.Laws.AppendOwn
import Derived.Laws.AppendOwnNone
import Derived.Laws.MakeOwn
import Derived.Laws.World
import Derived.Laws.Cells
import Derived.Laws.Small
import Derived.Laws.Entries
import Derived.Laws.Strings
import Derived.Laws.StructEq
import Derived.Laws.Shifts
set_option linter.unusedVariables false
namespace Go.DM

/-- A pure tree value: what a Go value reads as when it is never written again. A struct is the flat list of its cells; a slice the list of its rows (one row of cells an element). -/
inductive T where
  | bool (b : Bool)
  | int (k : IntKind) (n : Int)
  | str (s : ByteArray)
  | sl (rows : List (List T))
  | agg (cs : List T)
  | tup (vs : List T)
  | fn (f : Fn) (caps : List T)
  | box (cs : List T)
  | raw (v : Value)

instance : Inhabited T := ⟨.bool false⟩

section
variable (w : World) (W : Nat → Prop)
mutual
/-- The value v reads as the tree t in world w, and all the memory of it lies outside W (what may still be written). -/
def RelT : T → Value → Prop
  | .bool b, v => v = .bool b
  | .int k n, v => v = .int k n
  | .str s, v => v = .string s
  | .sl rows, v => (rows = [] ∧ ∃ (a : Option Addr) (cap : Nat), v = .slice a 0 cap) ∨
      ∃ b o cap sz, v = .slice (some ⟨b, o, none⟩) rows.length cap ∧ b < w.heap.size ∧ ¬ W b ∧ rows.length ≤ cap ∧ RelRows sz b o rows
  | .agg cs, v => ∃ vs, v = .agg vs ∧ RelL cs vs.toList
  | .tup ts, v => ∃ vs, v = .tuple vs ∧ RelA ts vs.toList
  | .fn f caps, v => ∃ vs, v = .func f #[] vs ∧ RelL caps vs.toList
  | .box cs, v => ∃ b o, v = .pointer (some ⟨b, o, none⟩) ∧ b < w.heap.size ∧ ¬ W b ∧ RelAt b o cs
  | .raw x, v => v = x
def RelL : List T → List Value → Prop
  | [], vs => vs = []
  | t :: ts, vs => ∃ v vs', vs = v :: vs' ∧ v.oneCell' = true ∧ RelT t v ∧ RelL ts vs'
def RelA : List T → List Value → Prop
  | [], vs => vs = []
  | t :: ts, vs => ∃ v vs', vs = v :: vs' ∧ RelT t v ∧ RelA ts vs'
def RelAt : Nat → Nat → List T → Prop
  | _, _, [] => True
  | b, o, t :: ts => (∃ v, w.cell? ⟨b, o, none⟩ = some v ∧ v.oneCell' = true ∧ RelT t v) ∧ RelAt b (o + 1) ts
def RelRows : Nat → Nat → Nat → List (List T) → Prop
  | _, _, _, [] => True
  | sz, b, o, r :: rs => r.length = sz ∧ RelAt b o r ∧ RelRows sz b (o + sz) rs
end
end

/-- What must hold for a reading to stay: the old cells outside W stay. -/
structure KeepsC (W : Nat → Prop) (w w' : World) : Prop where
  size : w.heap.size ≤ w'.heap.size
  blk : ∀ (b : Nat) c e fr, w.heap[b]? = some (.cells c e fr) → ¬ W b → w'.heap[b]? = some (.cells c e fr)
/-- The marks of loops stay, too. -/
structure Keeps (W : Nat → Prop) (w w' : World) : Prop extends KeepsC W w w' where
  dfr : ∀ b : Nat, w.heap[b]? = some (Obj.deferred (some [])) → w'.heap[b]? = some (Obj.deferred (some []))
  lps : ∀ (b : Nat) r, w.heap[b]? = some (Obj.loop r) → w'.heap[b]? = some (Obj.loop r)

theorem KeepsC.cell {W : Nat → Prop} {w w' : World} (h : KeepsC W w w') {b o : Nat} {v : Value} (hn : ¬ W b) (hc : w.cell? ⟨b, o, none⟩ = some v) : w'.cell? ⟨b, o, none⟩ = some v := by
  unfold World.cell? at hc ⊢
  simp only at hc ⊢
  split at hc
  · rename_i c e fr hb
    rw [h.blk b c e fr hb hn]
    exact hc
  · cases hc
theorem Keeps.refl (W : Nat → Prop) (w : World) : Keeps W w w := ⟨⟨Nat.le_refl _, fun _ _ _ _ h _ => h⟩, fun _ h => h, fun _ _ h => h⟩
theorem Keeps.trans {W : Nat → Prop} {a b c : World} (h : Keeps W a b) (k : Keeps W b c) : Keeps W a c :=
  ⟨⟨Nat.le_trans h.size k.size, fun i c e fr hi hw => k.blk i c e fr (h.blk i c e fr hi hw) hw⟩, fun i hi => k.dfr i (h.dfr i hi), fun i r hi => k.lps i r (h.lps i r hi)⟩
theorem Keeps.mono {W W' : Nat → Prop} {a b : World} (h : Keeps W a b) (hw : ∀ i, W i → W' i) : Keeps W' a b :=
  ⟨⟨h.size, fun i c e fr hi hn => h.blk i c e fr hi fun x => hn (hw i x)⟩, h.dfr, h.lps⟩
/-- Nothing below B has turned, and no draw has been taken back. -/
structure BelD (B : Nat) (w w' : World) : Prop extends RowKit.Below B w w' where
  drawn : w.drawn ≤ w'.drawn
theorem BelD.refl (B : Nat) (w : World) : BelD B w w := ⟨RowKit.Below.refl B w, Nat.le_refl _⟩
theorem BelD.trans {B : Nat} {a b c : World} (h : BelD B a b) (k : BelD B b c) : BelD B a c := ⟨h.toBelow.trans k.toBelow, Nat.le_trans h.drawn k.drawn⟩
theorem Keeps.of_below {W : Nat → Prop} {w w' : World} (h : RowKit.Below w.heap.size w w') : Keeps W w w' :=
  ⟨⟨h.size, fun b c e fr hb _ => (h.block b (Array.getElem?_eq_some_iff.1 hb).1).trans hb⟩, fun b hb => (h.block b (Array.getElem?_eq_some_iff.1 hb).1).trans hb, fun b r hb => (h.block b (Array.getElem?_eq_some_iff.1 hb).1).trans hb⟩

mutual
theorem RelT.keep {w w' : World} {W W' : Nat → Prop} (h : KeepsC W w w') (hW : ∀ b, b < w.heap.size → W' b → W b) : ∀ (t : T) (v : Value), RelT w W t v → RelT w' W' t v
  | .bool b, v, r => by simpa [RelT] using r
  | .int k n, v, r => by simpa [RelT] using r
  | .raw x, v, r => by simpa [RelT] using r
  | .str s, v, r => by simpa [RelT] using r
  | .sl rows, v, r => by
    simp only [RelT] at r ⊢
    rcases r with r | ⟨b, o, cap, sz, hv, hb, hn, hc, hr⟩
    · exact .inl r
    · exact .inr ⟨b, o, cap, sz, hv, Nat.lt_of_lt_of_le hb h.size, fun x => hn (hW b hb x), hc, RelRows.keep h hW hb hn sz o rows hr⟩
  | .agg cs, v, r => by
    simp only [RelT] at r ⊢
    obtain ⟨vs, hv, hr⟩ := r
    exact ⟨vs, hv, RelL.keep h hW cs _ hr⟩
  | .tup ts, v, r => by
    simp only [RelT] at r ⊢
    obtain ⟨vs, hv, hr⟩ := r
    exact ⟨vs, hv, RelA.keep h hW ts _ hr⟩
  | .fn f caps, v, r => by
    simp only [RelT] at r ⊢
    obtain ⟨vs, hv, hr⟩ := r
    exact ⟨vs, hv, RelL.keep h hW caps _ hr⟩
  | .box cs, v, r => by
    simp only [RelT] at r ⊢
    obtain ⟨b, o, hv, hb, hn, hr⟩ := r
    exact ⟨b, o, hv, Nat.lt_of_lt_of_le hb h.size, fun x => hn (hW b hb x), RelAt.keep h hW hb hn o cs hr⟩
theorem RelL.keep {w w' : World} {W W' : Nat → Prop} (h : KeepsC W w w') (hW : ∀ b, b < w.heap.size → W' b → W b) : ∀ (ts : List T) (vs : List Value), RelL w W ts vs → RelL w' W' ts vs
  | [], vs, r => by simpa [RelL] using r
  | t :: ts, vs, r => by
    simp only [RelL] at r ⊢
    obtain ⟨v, vs', hv, h1, hr, hrs⟩ := r
    exact ⟨v, vs', hv, h1, RelT.keep h hW t v hr, RelL.keep h hW ts vs' hrs⟩
theorem RelA.keep {w w' : World} {W W' : Nat → Prop} (h : KeepsC W w w') (hW : ∀ b, b < w.heap.size → W' b → W b) : ∀ (ts : List T) (vs : List Value), RelA w W ts vs → RelA w' W' ts vs
  | [], vs, r => by simpa [RelA] using r
  | t :: ts, vs, r => by
    simp only [RelA] at r ⊢
    obtain ⟨v, vs', hv, hr, hrs⟩ := r
    exact ⟨v, vs', hv, RelT.keep h hW t v hr, RelA.keep h hW ts vs' hrs⟩
theorem RelAt.keep {w w' : World} {W W' : Nat → Prop} (h : KeepsC W w w') (hW : ∀ b, b < w.heap.size → W' b → W b) {b : Nat} (hb : b < w.heap.size) (hn : ¬ W b) : ∀ (o : Nat) (ts : List T), RelAt w W b o ts → RelAt w' W' b o ts
  | _, [], _ => by simp [RelAt]
  | o, t :: ts, r => by
    simp only [RelAt] at r ⊢
    obtain ⟨⟨v, hc, h1, hr⟩, hrs⟩ := r
    exact ⟨⟨v, h.cell hn hc, h1, RelT.keep h hW t v hr⟩, RelAt.keep h hW hb hn (o + 1) ts hrs⟩
theorem RelRows.keep {w w' : World} {W W' : Nat → Prop} (h : KeepsC W w w') (hW : ∀ b, b < w.heap.size → W' b → W b) {b : Nat} (hb : b < w.heap.size) (hn : ¬ W b) (sz : Nat) : ∀ (o : Nat) (rs : List (List T)), RelRows w W sz b o rs → RelRows w' W' sz b o rs
  | _, [], _ => by simp [RelRows]
  | o, r :: rs, x => by
    simp only [RelRows] at x ⊢
    exact ⟨x.1, RelAt.keep h hW hb hn o r x.2.1, RelRows.keep h hW hb hn sz (o + sz) rs x.2.2⟩
end

section
variable {w : World} {W : Nat → Prop}
theorem RelRows.row {sz b : Nat} : ∀ {rows : List (List T)} {o i : Nat} {r : List T}, RelRows w W sz b o rows → rows[i]? = some r → r.length = sz ∧ RelAt w W b (o + i * sz) r
  | [], _, _, _, _, h => by simp at h
  | x :: xs, o, 0, r, hr, h => by
    simp only [RelRows] at hr
    simp only [List.getElem?_cons_zero, Option.some.injEq] at h
    subst h
    simpa using ⟨hr.1, hr.2.1⟩
  | x :: xs, o, i + 1, r, hr, h => by
    simp only [RelRows] at hr
    simp only [List.getElem?_cons_succ] at h
    have := RelRows.row hr.2.2 h
    rw [show o + (i + 1) * sz = o + sz + i * sz by rw [Nat.add_mul]; omega]
    exact this
theorem RelAt.cell {b : Nat} : ∀ {ts : List T} {o j : Nat} {t : T}, RelAt w W b o ts → ts[j]? = some t → ∃ v, w.cell? ⟨b, o + j, none⟩ = some v ∧ v.oneCell' = true ∧ RelT w W t v
  | [], _, _, _, _, h => by simp at h
  | x :: xs, o, 0, t, hr, h => by
    simp only [RelAt] at hr
    simp only [List.getElem?_cons_zero, Option.some.injEq] at h
    subst h
    simpa using hr.1
  | x :: xs, o, j + 1, t, hr, h => by
    simp only [RelAt] at hr
    simp only [List.getElem?_cons_succ] at h
    have := RelAt.cell hr.2 h
    rw [show o + (j + 1) = o + 1 + j by omega]
    exact this
theorem RelAt.of_cells {b : Nat} : ∀ (ts : List T) (o : Nat), (∀ j t, ts[j]? = some t → ∃ v, w.cell? ⟨b, o + j, none⟩ = some v ∧ v.oneCell' = true ∧ RelT w W t v) → RelAt w W b o ts
  | [], _, _ => by simp [RelAt]
  | t :: ts, o, h => by
    simp only [RelAt]
    refine ⟨by simpa using h 0 t (by simp), RelAt.of_cells ts (o + 1) fun j u hu => ?_⟩
    have := h (j + 1) u (by simpa using hu)
    rwa [show o + 1 + j = o + (j + 1) by omega]
theorem RelRows.of_rows {sz b : Nat} : ∀ (rs : List (List T)) (o : Nat), (∀ i r, rs[i]? = some r → r.length = sz ∧ RelAt w W b (o + i * sz) r) → RelRows w W sz b o rs
  | [], _, _ => by simp [RelRows]
  | r :: rs, o, h => by
    simp only [RelRows]
    have h0 := h 0 r (by simp)
    refine ⟨h0.1, by simpa using h0.2, RelRows.of_rows rs (o + sz) fun i u hu => ?_⟩
    have := h (i + 1) u (by simpa using hu)
    rwa [show o + sz + i * sz = o + (i + 1) * sz by rw [Nat.add_mul]; omega]
theorem RelL.length : ∀ {ts : List T} {vs : List Value}, RelL w W ts vs → vs.length = ts.length
  | [], _, h => by simp only [RelL] at h; simp [h]
  | _ :: ts, _, h => by
    simp only [RelL] at h
    obtain ⟨v, vs', rfl, _, _, hr⟩ := h
    simp [RelL.length hr]
theorem RelA.length : ∀ {ts : List T} {vs : List Value}, RelA w W ts vs → vs.length = ts.length
  | [], _, h => by simp only [RelA] at h; simp [h]
  | _ :: ts, _, h => by
    simp only [RelA] at h
    obtain ⟨v, vs', rfl, _, hr⟩ := h
    simp [RelA.length hr]
theorem RelL.get : ∀ {ts : List T} {vs : List Value} {i : Nat} {t : T}, RelL w W ts vs → ts[i]? = some t → ∃ v, vs[i]? = some v ∧ v.oneCell' = true ∧ RelT w W t v
  | [], _, _, _, _, h => by simp at h
  | x :: xs, _, 0, t, hr, h => by
    simp only [RelL] at hr
    obtain ⟨v, vs', rfl, h1, h2, _⟩ := hr
    simp only [List.getElem?_cons_zero, Option.some.injEq] at h
    subst h
    exact ⟨v, rfl, h1, h2⟩
  | x :: xs, _, i + 1, t, hr, h => by
    simp only [RelL] at hr
    obtain ⟨v, vs', rfl, _, _, hr⟩ := hr
    simpa using RelL.get hr (by simpa using h)
theorem RelA.get : ∀ {ts : List T} {vs : List Value} {i : Nat} {t : T}, RelA w W ts vs → ts[i]? = some t → ∃ v, vs[i]? = some v ∧ RelT w W t v
  | [], _, _, _, _, h => by simp at h
  | x :: xs, _, 0, t, hr, h => by
    simp only [RelA] at hr
    obtain ⟨v, vs', rfl, h2, _⟩ := hr
    simp only [List.getElem?_cons_zero, Option.some.injEq] at h
    subst h
    exact ⟨v, rfl, h2⟩
  | x :: xs, _, i + 1, t, hr, h => by
    simp only [RelA] at hr
    obtain ⟨v, vs', rfl, _, hr⟩ := hr
    simpa using RelA.get hr (by simpa using h)
end
/-- Package variables that are never written: their blocks and what lies there. -/
class Laid where
  cells : List (Nat × List T)
/-- The laid variables lie there, and may not be written. -/
def GOk [Laid] (w : World) (W : Nat → Prop) : Prop := ∀ p ∈ Laid.cells, p.1 < w.heap.size ∧ ¬ W p.1 ∧ RelAt w W p.1 0 p.2
theorem GOk.keep [Laid] {w w' : World} {W W' : Nat → Prop} (h : GOk w W) (hk : KeepsC W w w') (hW : ∀ b, b < w.heap.size → W' b → W b) : GOk w' W' := fun p hp => by
  obtain ⟨h1, h2, h3⟩ := h p hp
  exact ⟨Nat.lt_of_lt_of_le h1 hk.size, fun x => h2 (hW _ h1 x), RelAt.keep hk hW h1 h2 0 p.2 h3⟩
end Go.DM
/- The D-machine, part B: slot values, named objects, the state, the operations and what they do to the state. Conditions: none. -/
set_option linter.unusedVariables false
namespace Go.DM

/-- What a slot holds. -/
inductive DV where
  | undef
  | skip                                                   -- what an operation that was passed over leaves
  | v (t : T)
  | nil0                                                   -- a slice with length 0 and capacity 0
  | ptr (r off : Nat)                                      -- a cell of the box named r
  | aref (r ver : Nat)                                     -- the slice over the array named r, at its version
  | tptr (rows : List (List T)) (i : Int) (off : Nat)      -- a cell of row i of a slice that is never written
  | bptr (cs : List T) (off : Nat)                         -- a cell of a box that is never written
  | aptr (r ver : Nat) (i : Int) (off : Nat)               -- a cell of row i of the array named r
  | agg (cs : List DV)
  | yld                                                    -- the function that a range over a function hands to its iterator
  | mref (r : Nat)                                         -- the map named r
  | iter (r : Nat)                                         -- the iterator over a map named r
  | tup (ds : List DV)                                     -- a tuple
  | asl (r ver lo n : Nat)                                 -- n rows of the array named r from row lo on
  | clo (f : Fn) (caps : List DV)                          -- a function value that holds more than trees
  | bsl (r n : Nat)                                        -- the slice of n rows over the box named r

instance : Inhabited DV := ⟨.undef⟩

/-- The shape of a type whose values are compared cell by cell. -/
inductive Sh where
  | bool | int (k : IntKind) | str
def shOk : Sh → T → Bool
  | .bool, .bool _ => true
  | .int k, .int k' _ => k == k'
  | .str, .str _ => true
  | _, _ => false

def fitsT : List Sh → List T → Prop
  | [], ts => ts = []
  | s :: ss, t :: ts => shOk s t = true ∧ fitsT ss ts
  | _ :: _, [] => False

/-- A named object that may be written. A map: the shape of its keys; the next stamp; each entry's stamp, key and value. An iterator over the map named m: the stamp at which it began, the stamps seen, the map's stamp at the last step. -/
inductive Ob where
  | box (cs : List DV)
  | arr (ver e sz : Nat) (rows : List (List T))
  | map (shs : List Sh) (agg : Bool) (clock : Nat) (es : List (Nat × T × DV))
  | iter (m since : Nat) (seen : List Nat) (last : Nat)

def Ob.kind : Ob → Nat
  | .box _ => 0
  | .arr _ _ _ _ => 1
  | .map _ _ _ _ => 2
  | .iter _ _ _ _ => 3

abbrev Obs := Nat → Option Ob

/-- The state: the slots, the objects, the number from which new names are made; the number from which on names are the run's own; what is still to be handed to a loop's body. -/
structure DSt where
  tmps : Nat → DV
  objs : Obs
  nxt : Nat
  low : Nat
  todo : List (List T)

/-- An operand: a slot or a constant. -/
inductive Opd where
  | tmp (t : Nat)
  | con (d : DV)

def Opd.ev (ρ : Nat → DV) : Opd → DV
  | .tmp t => ρ t
  | .con d => d

/-- What a call leaves that may write: what must hold, the answer, the objects. -/
structure SRes where
  ok : Prop
  val : DV
  objs : Obs

/-- A function's contract: where it may be called, and what it answers. 'scalar': the answer holds no memory, so an array may be lent to the call. 'st': the contract of a function that may write. -/
structure Spec where
  pre : List T → Prop
  fn : List T → T
  scalar : Bool
  st : Option (List DV → Obs → SRes) := none
  fresh : Option (Nat × Nat) := none   -- its answer is a slice over new memory, of this element type and size
  lend : Bool := false                  -- and its cells hold no memory: it may be lent arrays

abbrev Env := FuncId → Option Spec


inductive DOp where
  | mov (x : Opd)
  | pick (c a b : Opd)
  | alloc (zero : List DV)
  | box (x : Opd)
  | build (zero : List DV) (parts : List (Nat × Nat × Opd))
  | bslice (len sz : Nat) (zero : List DV) (parts : List (Nat × Nat × Opd))
  | load (n : Nat) (agg : Bool) (x : Opd)
  | store (n : Nat) (x y : Opd)
  | bin (op : BinOp) (x y : Opd)
  | eqT (neg agg : Bool) (shs : List Sh) (x y : Opd)
  | un (op : UnOp) (x : Opd)
  | conv (k : IntKind) (x : Opd)
  | addOff (k : Nat) (x : Opd)
  | nilCheck (x : Opd)
  | idxAddr (sz : Nat) (x i : Opd)
  | arrAddr (len sz : Nat) (x i : Opd)
  | field (off n : Nat) (agg : Bool) (x : Opd)
  | slice (sz : Nat) (x : Opd) (lo hi : Option Opd)
  | extract (i : Nat) (x : Opd)
  | call (f : FuncId) (args : List Opd)
  | callS (f : FuncId) (args : List Opd)
  | callF (f : FuncId) (args : List Opd)
  | callR (f : FuncId) (args : List Opd)                   -- a call that reads the objects of its arguments and writes none
  | callv (x : Opd) (args : List Opd)
  | len (x : Opd)
  | lenS (x : Opd)
  | minmax (isMax : Bool) (x y : Opd)
  | append (e sz bytes : Nat) (x y : Opd)
  | mkSlice (e sz bytes : Nat) (zero : List T) (n : Opd)
  | mkSliceB (e sz bytes : Nat) (zero : List T) (n : Opd)
  | mkFn (f : Fn) (caps : List Opd)
  | mkMap (shs : List Sh) (agg : Bool)
  | lookup (shs : List Sh) (agg : Bool) (zero : DV) (ok : Bool) (x k : Opd)
  | mapUpd (shs : List Sh) (agg : Bool) (x k y : Opd)
  | mapDel (shs : List Sh) (agg : Bool) (x k : Opd)
  | mapEnt (shs : List Sh) (agg : Bool) (zero : DV) (x k : Opd)  -- an entry, made if it is not there, and its stamp
  | entSt (x s y : Opd)                                          -- a write to the entry with a stamp
  | lenM (x : Opd)
  | rangeM (x : Opd)
  | entryM (x : Opd)
  | copy (sz : Nat) (x y : Opd)
  | isNil (kind : Nat) (neg : Bool) (x : Opd)
  | indexS (x i : Opd)
  | fail

/-- The effect of an operation: what must hold, the value, the object that it lays or turns. -/
structure Eff where
  ok : Prop
  val : DV
  put : Option (Nat × Ob) := none

def bad : Eff := ⟨False, .undef, none⟩

def leafT : T → Bool
  | .agg _ | .tup _ => false
  | .raw v => v.oneCell'
  | _ => true

/-- The cells of a value. -/
def cellsOf : DV → List DV
  | .v (.agg cs) => cs.map .v
  | .agg cs => cs
  | d => [d]

/-- May this value be a variable's value? -/
def boxable : DV → Prop
  | .undef => False
  | .skip => False
  | .v (.tup _) => False
  | .v (.raw x) => x.oneCell' = true
  | .tup _ => False
  | _ => True

mutual
/-- The tree that a value reads as. -/
def tOf (objs : Obs) : DV → T
  | .v t => t
  | .nil0 => .sl []
  | .aref r _ => match objs r with | some (.arr _ _ _ rows) => .sl rows | _ => .sl []
  | .agg cs => .agg (tOfs objs cs)
  | .asl r _ lo n => match objs r with | some (.arr _ _ _ rows) => .sl ((rows.drop lo).take n) | _ => .sl []
  | .clo f caps => .fn f (tOfs objs caps)
  | _ => .raw undef
def tOfs (objs : Obs) : List DV → List T
  | [] => []
  | d :: ds => tOf objs d :: tOfs objs ds
end

mutual
/-- It reads as a tree that shares nothing with an array that may be written (lend = false), or may share for the time of a call (lend = true). -/
def tOk (lend : Bool) (objs : Obs) : DV → Prop
  | .v _ => True
  | .nil0 => True
  | .aref r ver => lend = true ∧ match objs r with | some (.arr ver' _ _ _) => ver = ver' | _ => False
  | .agg cs => tOks lend objs cs
  | .asl r ver lo n => lend = true ∧ match objs r with | some (.arr ver' _ _ rows) => ver = ver' ∧ lo + n ≤ rows.length | _ => False
  | .clo _ caps => tOks lend objs caps
  | _ => False
def tOks (lend : Bool) (objs : Obs) : List DV → Prop
  | [] => True
  | d :: ds => tOk lend objs d ∧ tOks lend objs ds
end

def pureCell : DV → Prop
  | .v t => leafT t = true
  | .nil0 => True
  | _ => False
def pureCells : List DV → Prop
  | [] => True
  | d :: ds => pureCell d ∧ pureCells ds
def pureB : List DV → Bool
  | [] => true
  | .v t :: ds => leafT t && pureB ds
  | .nil0 :: ds => pureB ds
  | _ :: _ => false

/-- May this stand in a cell? -/
def cellable : DV → Prop
  | .undef => False
  | .skip => False
  | .v t => leafT t = true
  | .agg _ => False
  | .tup _ => False
  | _ => True
def cellables : List DV → Prop
  | [] => True
  | d :: ds => cellable d ∧ cellables ds

def splice {α : Type} (l : List α) (off : Nat) (new : List α) : List α := l.take off ++ new ++ l.drop (off + new.length)

/-- Parts of a literal laid over its zero cells. -/
def fillD (cells : List DV) : List (Nat × Nat × DV) → List DV
  | [] => cells
  | (off, _, d) :: ps => fillD (splice cells off (cellsOf d)) ps
def fillOk (n : Nat) : List (Nat × Nat × DV) → Prop
  | [] => True
  | (off, sz, d) :: ps => (cellsOf d).length = sz ∧ off + sz ≤ n ∧ cellables (cellsOf d) ∧ fillOk n ps

def rowAt (rows : List (List T)) (i : Int) : List T := rows.getD i.toNat []

def chunk (sz : Nat) : Nat → List T → List (List T)
  | 0, _ => []
  | n + 1, cs => cs.take sz :: chunk sz n (cs.drop sz)

def loadSem (n : Nat) (agg : Bool) (objs : Obs) : DV → Eff
  | .ptr r off => match objs r with
    | some (.box cs) => ⟨off + n ≤ cs.length ∧ (agg = true ∨ n = 1), if agg then .agg ((cs.drop off).take n) else cs.getD off .undef, none⟩
    | _ => bad
  | .tptr rows i off => ⟨off + n ≤ (rowAt rows i).length ∧ (agg = true ∨ n = 1), if agg then .v (.agg (((rowAt rows i).drop off).take n)) else .v ((rowAt rows i).getD off default), none⟩
  | .bptr cs off => ⟨off + n ≤ cs.length ∧ (agg = true ∨ n = 1), if agg then .v (.agg ((cs.drop off).take n)) else .v (cs.getD off default), none⟩
  | .v (.box cs) => ⟨n ≤ cs.length ∧ (agg = true ∨ n = 1), if agg then .v (.agg (cs.take n)) else .v (cs.getD 0 default), none⟩
  | .aptr r ver i off => match objs r with
    | some (.arr ver' _ _ rows) => ⟨ver = ver' ∧ off + n ≤ (rowAt rows i).length ∧ (agg = true ∨ n = 1), if agg then .v (.agg (((rowAt rows i).drop off).take n)) else .v ((rowAt rows i).getD off default), none⟩
    | _ => bad
  | _ => bad

def storeSem (n : Nat) (objs : Obs) (y : DV) : DV → Eff
  | .ptr r off => match objs r with
    | some (.box cs) => ⟨(cellsOf y).length = n ∧ off + n ≤ cs.length ∧ cellables (cellsOf y), .undef, some (r, .box (splice cs off (cellsOf y)))⟩
    | _ => bad
  | .aptr r ver i off => match objs r with
    | some (.arr ver' e sz rows) => ⟨ver = ver' ∧ (cellsOf y).length = n ∧ off + n ≤ sz ∧ pureCells (cellsOf y), .undef,
        some (r, .arr ver' e sz (rows.set i.toNat (splice (rowAt rows i) off (tOfs objs (cellsOf y)))))⟩
    | _ => bad
  | _ => bad

def binSem (op : BinOp) : DV → DV → Eff
  | .v (.int k a), .v (.int k' b) => match op with
    | .add => ⟨k = k', .v (.int k (k.wrap (a + b))), none⟩
    | .sub => ⟨k = k', .v (.int k (k.wrap (a - b))), none⟩
    | .mul => ⟨k = k', .v (.int k (k.wrap (a * b))), none⟩
    | .quo => ⟨k = k' ∧ b ≠ 0, .v (.int k (k.wrap (a.tdiv b))), none⟩
    | .rem => ⟨k = k' ∧ b ≠ 0, .v (.int k (a.tmod b)), none⟩
    | .eql => ⟨k = k', .v (.bool (decide (a = b))), none⟩
    | .neq => ⟨k = k', .v (.bool (!decide (a = b))), none⟩
    | .lss => ⟨k = k', .v (.bool (decide (a < b))), none⟩
    | .leq => ⟨k = k', .v (.bool (decide (a ≤ b))), none⟩
    | .gtr => ⟨k = k', .v (.bool (decide (b < a))), none⟩
    | .geq => ⟨k = k', .v (.bool (decide (b ≤ a))), none⟩
    | .shl => ⟨0 ≤ b, .v (.int k (k.wrap (a * 2 ^ min b.toNat k.bits))), none⟩
    | .shr => ⟨0 ≤ b, .v (.int k (a / 2 ^ min b.toNat k.bits)), none⟩
    | .and => ⟨k = k', .v (.int k (k.wrap (BitVec.ofInt k.bits a &&& BitVec.ofInt k.bits b).toNat)), none⟩
    | .or => ⟨k = k', .v (.int k (k.wrap (BitVec.ofInt k.bits a ||| BitVec.ofInt k.bits b).toNat)), none⟩
    | .xor => ⟨k = k', .v (.int k (k.wrap (BitVec.ofInt k.bits a ^^^ BitVec.ofInt k.bits b).toNat)), none⟩
    | _ => bad
  | _, _ => bad

mutual
/-- Equality of trees that are compared cell by cell. -/
def eqTB : T → T → Bool
  | .bool a, .bool b => a == b
  | .int _ a, .int _ b => decide (a = b)
  | .str a, .str b => decide (a = b)
  | .agg as, .agg bs => eqTBs as bs
  | _, _ => false
def eqTBs : List T → List T → Bool
  | [], [] => true
  | a :: as, b :: bs => eqTB a b && eqTBs as bs
  | _, _ => false
end

def eqSem (neg agg : Bool) (shs : List Sh) : T → T → Eff
  | .agg as, .agg bs => ⟨agg = true ∧ fitsT shs as ∧ fitsT shs bs, .v (.bool (neg ^^ eqTBs as bs)), none⟩
  | a, b => ⟨agg = false ∧ fitsT shs [a] ∧ fitsT shs [b], .v (.bool (neg ^^ eqTB a b)), none⟩

def unSem (op : UnOp) : DV → Eff
  | .v (.bool b) => match op with
    | .not => ⟨True, .v (.bool (!b)), none⟩
    | _ => bad
  | .v (.int k n) => match op with
    | .neg => ⟨True, .v (.int k (k.wrap (-n))), none⟩
    | _ => bad
  | _ => bad

def addOffSem (k : Nat) : DV → Eff
  | .ptr r off => ⟨True, .ptr r (off + k), none⟩
  | .tptr rows i off => ⟨True, .tptr rows i (off + k), none⟩
  | .bptr cs off => ⟨True, .bptr cs (off + k), none⟩
  | .v (.box cs) => ⟨True, .bptr cs k, none⟩
  | .aptr r ver i off => ⟨True, .aptr r ver i (off + k), none⟩
  | _ => bad

def nilCheckSem : DV → Eff
  | .ptr r off => ⟨True, .ptr r off, none⟩
  | .tptr rows i off => ⟨True, .tptr rows i off, none⟩
  | .bptr cs off => ⟨True, .bptr cs off, none⟩
  | .v (.box cs) => ⟨True, .v (.box cs), none⟩
  | .aptr r ver i off => ⟨True, .aptr r ver i off, none⟩
  | .v (.fn (.func f) caps) => ⟨True, .v (.fn (.func f) caps), none⟩
  | _ => bad

def idxSem (sz : Nat) (objs : Obs) : DV → DV → Eff
  | .v (.sl rows), .v (.int _ i) => ⟨0 ≤ i ∧ i < rows.length ∧ (rowAt rows i).length = sz, .tptr rows i 0, none⟩
  | .aref r ver, .v (.int _ i) => match objs r with
    | some (.arr ver' _ sz' rows) => ⟨ver = ver' ∧ sz' = sz ∧ 0 ≤ i ∧ i < rows.length, .aptr r ver i 0, none⟩
    | _ => bad
  | .asl r ver lo n, .v (.int _ i) => match objs r with
    | some (.arr ver' _ sz' rows) => ⟨ver = ver' ∧ sz' = sz ∧ 0 ≤ i ∧ i < n, .aptr r ver (lo + i) 0, none⟩
    | _ => bad
  | .bsl r n, .v (.int _ i) => ⟨0 ≤ i ∧ i < n, .ptr r (i.toNat * sz), none⟩
  | _, _ => bad

def arrAddrSem (len sz : Nat) : DV → DV → Eff
  | .ptr r off, .v (.int _ i) => ⟨0 ≤ i ∧ i < len, .ptr r (off + i.toNat * sz), none⟩
  | .tptr rows j off, .v (.int _ i) => ⟨0 ≤ i ∧ i < len, .tptr rows j (off + i.toNat * sz), none⟩
  | .bptr cs off, .v (.int _ i) => ⟨0 ≤ i ∧ i < len, .bptr cs (off + i.toNat * sz), none⟩
  | .v (.box cs), .v (.int _ i) => ⟨0 ≤ i ∧ i < len, .bptr cs (i.toNat * sz), none⟩
  | .aptr r ver j off, .v (.int _ i) => ⟨0 ≤ i ∧ i < len, .aptr r ver j (off + i.toNat * sz), none⟩
  | _, _ => bad

def aggCells : DV → Option (List DV)
  | .v (.agg cs) => some (cs.map .v)
  | .agg cs => some cs
  | _ => none

def fieldSem (off n : Nat) (agg : Bool) (x : DV) : Eff :=
  match aggCells x with
  | some cs => ⟨off + n ≤ cs.length ∧ (agg = true ∨ n = 1), if agg then .agg ((cs.drop off).take n) else cs.getD off .undef, none⟩
  | none => bad

def intOf? : DV → Option Int
  | .v (.int _ n) => some n
  | _ => none

def loOf : Option DV → Option Int
  | none => some 0
  | some d => intOf? d
def hiOf (n : Int) : Option DV → Option Int
  | none => some n
  | some d => intOf? d

def sliceSem (sz : Nat) (lo hi : Option DV) (objs : Obs) : DV → Eff
  | .v (.sl rows) =>
    match loOf lo, hiOf rows.length hi with
    | some l, some h => ⟨0 ≤ l ∧ l ≤ h ∧ h ≤ rows.length ∧ (∀ r ∈ rows, r.length = sz), .v (.sl ((rows.take h.toNat).drop l.toNat)), none⟩
    | _, _ => bad
  | .nil0 =>
    match loOf lo, hiOf 0 hi with
    | some l, some h => ⟨l = 0 ∧ h = 0, .nil0, none⟩
    | _, _ => bad
  | .aref r ver => match objs r with
    | some (.arr ver' _ sz' rows) => match loOf lo, hiOf rows.length hi with
      | some l, some h => ⟨ver = ver' ∧ sz' = sz ∧ 0 ≤ l ∧ l ≤ h ∧ h ≤ rows.length, .asl r ver l.toNat (h.toNat - l.toNat), none⟩
      | _, _ => bad
    | _ => bad
  | .asl r ver lo' n => match objs r with
    | some (.arr ver' _ sz' rows) => match loOf lo, hiOf n hi with
      | some l, some h => ⟨ver = ver' ∧ sz' = sz ∧ 0 ≤ l ∧ l ≤ h ∧ h ≤ n, .asl r ver (lo' + l.toNat) (h.toNat - l.toNat), none⟩
      | _, _ => bad
    | _ => bad
  | _ => bad

def extractSem (i : Nat) : DV → Eff
  | .v (.tup ts) => ⟨i < ts.length, .v (ts.getD i default), none⟩
  | .tup ds => ⟨i < ds.length, ds.getD i .undef, none⟩
  | _ => bad

def lenSem (objs : Obs) : DV → Eff
  | .v (.sl rows) => ⟨True, .v (.int .i64 rows.length), none⟩
  | .nil0 => ⟨True, .v (.int .i64 0), none⟩
  | .aref r ver => match objs r with
    | some (.arr ver' _ _ rows) => ⟨ver = ver', .v (.int .i64 rows.length), none⟩
    | _ => bad
  | .asl _ _ _ n => ⟨True, .v (.int .i64 n), none⟩
  | .bsl _ n => ⟨True, .v (.int .i64 n), none⟩
  | _ => bad

def lenSSem : DV → Eff
  | .v (.str s) => ⟨True, .v (.int .i64 s.size), none⟩
  | _ => bad

def minmaxSem (isMax : Bool) : DV → DV → Eff
  | .v (.int k a), .v (.int k' b) => ⟨k = k', .v (.int k (if isMax then max a b else min a b)), none⟩
  | _, _ => bad

/-- The rows of an append's second argument. -/
def srcRows (objs : Obs) : DV → Option (List (List T))
  | .v (.sl rows) => some rows
  | .nil0 => some []
  | .aref r ver => match objs r with
    | some (.arr ver' _ _ rows) => if ver = ver' then some rows else none
    | _ => none
  | .asl r ver lo n => match objs r with
    | some (.arr ver' _ _ rows) => if ver = ver' then some ((rows.drop lo).take n) else none
    | _ => none
  | .v (.raw (.slice _ 0 _)) => some []
  | _ => none

def roomOk (bytes n : Nat) : Prop := n * bytes ≤ 140737488355328 ∧ n ≤ 140737488355328

def appendSem (e sz bytes : Nat) (name : Nat) (objs : Obs) (x y : DV) : Eff :=
  match srcRows objs y with
  | none => bad
  | some ys =>
    match x with
    | .nil0 => ⟨(∀ r ∈ ys, r.length = sz) ∧ roomOk bytes ys.length, .aref name 0, some (name, .arr 0 e sz ys)⟩
    | .aref r ver => match objs r with
      | some (.arr ver' e' sz' rows) => ⟨ver = ver' ∧ e' = e ∧ sz' = sz ∧ (∀ r ∈ ys, r.length = sz) ∧ roomOk bytes (rows.length + ys.length), .aref r (ver + 1), some (r, .arr (ver + 1) e sz (rows ++ ys))⟩
      | _ => bad
    | .asl r ver 0 n => match objs r with
      | some (.arr ver' e' sz' rows) => ⟨ver = ver' ∧ e' = e ∧ sz' = sz ∧ (∀ r ∈ ys, r.length = sz) ∧ roomOk bytes (n + ys.length), .aref r (ver + 1), some (r, .arr (ver + 1) e sz (rows.take n ++ ys))⟩
      | _ => bad
    | _ => bad

def makeSem (e sz bytes : Nat) (zero : List T) (name : Nat) : DV → Eff
  | .v (.int _ n) => ⟨0 ≤ n ∧ zero.length = sz ∧ roomOk bytes n.toNat, .aref name 0, some (name, .arr 0 e sz (List.replicate n.toNat zero))⟩
  | _ => bad

/-- A zero cell as a box holds it. -/
def zeroC : T → DV
  | .sl [] => .nil0
  | t => .v t
/-- A slice made as a box: its cells may come to hold what is written. -/
def makeBSem (sz bytes : Nat) (zero : List T) (name : Nat) : DV → Eff
  | .v (.int _ n) => ⟨0 ≤ n ∧ zero.length = sz ∧ roomOk bytes n.toNat, .bsl name n.toNat, some (name, .box (List.replicate n.toNat (zero.map zeroC)).flatten)⟩
  | _ => bad

/-- A copy: into a row of an array. -/
def copySem (sz : Nat) (objs : Obs) (x y : DV) : Eff :=
  match srcRows objs y with
  | none => bad
  | some ys =>
    match x with
    | .aref r ver => match objs r with
      | some (.arr ver' e sz' rows) => ⟨ver = ver' ∧ sz' = sz ∧ (∀ r ∈ ys, r.length = sz), .v (.int .i64 (min ys.length rows.length : Nat)), some (r, .arr ver e sz (splice rows 0 (ys.take rows.length)))⟩
      | _ => bad
    | .asl r ver lo n => match objs r with
      | some (.arr ver' e sz' rows) => ⟨ver = ver' ∧ sz' = sz ∧ (∀ r ∈ ys, r.length = sz), .v (.int .i64 (min ys.length n : Nat)), some (r, .arr ver e sz (splice rows lo (ys.take n)))⟩
      | _ => bad
    | _ => bad

/-- A test against nil: of a slice (0), a pointer (1), a function value (2). -/
def isNilSem (kind : Nat) (neg : Bool) (objs : Obs) : DV → Eff
  | .v (.raw (.slice p _ _)) => ⟨kind = 0, .v (.bool (neg ^^ p.isNone)), none⟩
  | .v (.raw (.pointer p)) => ⟨kind = 1, .v (.bool (neg ^^ p.isNone)), none⟩
  | .v (.raw .nilFunc) => ⟨kind = 2, .v (.bool (neg ^^ true)), none⟩
  | .v (.sl rows) => ⟨kind = 0 ∧ rows ≠ [], .v (.bool (neg ^^ false)), none⟩
  | .v (.fn (.func _) _) => ⟨kind = 2, .v (.bool (neg ^^ false)), none⟩
  | .v (.box _) => ⟨kind = 1, .v (.bool (neg ^^ false)), none⟩
  | .ptr _ _ | .bptr _ _ | .tptr _ _ _ | .aptr _ _ _ _ => ⟨kind = 1, .v (.bool (neg ^^ false)), none⟩
  | .clo (.func _) _ => ⟨kind = 2, .v (.bool (neg ^^ false)), none⟩
  | .aref r ver => match objs r with
    | some (.arr ver' _ _ rows) => ⟨kind = 0 ∧ ver = ver' ∧ rows ≠ [], .v (.bool (neg ^^ false)), none⟩
    | _ => bad
  | _ => bad

def indexSSem : DV → DV → Eff
  | .v (.str s), .v (.int _ i) => ⟨0 ≤ i ∧ i < s.size, .v (.int .u8 (s.data.getD i.toNat 0).toNat), none⟩
  | _, _ => bad

/-- Does this tree fit the keys of a map? -/
def keyOk (shs : List Sh) (agg : Bool) : T → Prop
  | .agg as => agg = true ∧ fitsT shs as
  | t => agg = false ∧ fitsT shs [t]

/-- A key that holds no memory. -/
def allV : List DV → Option (List T)
  | [] => some []
  | .v t :: ds => (allV ds).map (t :: ·)
  | _ :: _ => none
def keyT : DV → Option T
  | .v t => some t
  | .agg cs => (allV cs).map .agg
  | _ => none

def findE (k : T) (es : List (Nat × T × DV)) : Option (Nat × T × DV) := es.find? fun e => eqTB k e.2.1
def setE (k : T) (y : DV) (clock : Nat) (es : List (Nat × T × DV)) : List (Nat × T × DV) :=
  match es.findIdx? fun e => eqTB k e.2.1 with
  | some i => es.modify i fun e => (e.1, e.2.1, y)
  | none => es ++ [(clock, k, y)]
def clockE (k : T) (clock : Nat) (es : List (Nat × T × DV)) : Nat :=
  match es.findIdx? fun e => eqTB k e.2.1 with
  | some _ => clock
  | none => clock + 1
def delE (k : T) (es : List (Nat × T × DV)) : List (Nat × T × DV) :=
  match es.findIdx? fun e => eqTB k e.2.1 with
  | some i => es.eraseIdx i
  | none => es

def lookupSem (shs : List Sh) (agg : Bool) (zero : DV) (ok : Bool) (objs : Obs) (x k : DV) : Eff :=
  match x, keyT k with
  | .mref r, some kt => match objs r with
    | some (.map shs' agg' _ es) => ⟨shs' = shs ∧ agg' = agg ∧ keyOk shs agg kt,
        match findE kt es with
        | some e => if ok then .tup [e.2.2, .v (.bool true)] else e.2.2
        | none => if ok then .tup [zero, .v (.bool false)] else zero, none⟩
    | _ => bad
  | _, _ => bad
def mapUpdSem (shs : List Sh) (agg : Bool) (objs : Obs) (x k y : DV) : Eff :=
  match x, keyT k with
  | .mref r, some kt => match objs r with
    | some (.map shs' agg' c es) => ⟨shs' = shs ∧ agg' = agg ∧ keyOk shs agg kt ∧ boxable y, .undef, some (r, .map shs agg (clockE kt c es) (setE kt y c es))⟩
    | _ => bad
  | _, _ => bad
/-- The entries, the key's among them. -/
def entE (k : T) (z : DV) (clock : Nat) (es : List (Nat × T × DV)) : List (Nat × T × DV) :=
  match es.findIdx? fun e => eqTB k e.2.1 with
  | some _ => es
  | none => es ++ [(clock, k, z)]
def entV (k : T) (z : DV) (clock : Nat) (es : List (Nat × T × DV)) : DV :=
  match findE k es with
  | some e => .tup [e.2.2, .v (.int .i64 e.1)]
  | none => .tup [z, .v (.int .i64 clock)]
def mapEntSem (shs : List Sh) (agg : Bool) (zero : DV) (objs : Obs) (x k : DV) : Eff :=
  match x, keyT k with
  | .mref r, some kt => match objs r with
    | some (.map shs' agg' c es) => ⟨shs' = shs ∧ agg' = agg ∧ keyOk shs agg kt,
        entV kt zero c es, some (r, .map shs agg (clockE kt c es) (entE kt zero c es))⟩
    | _ => bad
  | _, _ => bad
def setB (b : Int) (y : DV) (es : List (Nat × T × DV)) : Option (List (Nat × T × DV)) :=
  (es.findIdx? fun e => (e.1 : Int) == b).map fun i => es.modify i fun e => (e.1, e.2.1, y)
def entStSem (objs : Obs) (x s y : DV) : Eff :=
  match x, s with
  | .mref r, .v (.int _ b) => match objs r with
    | some (.map shs agg c es) => match setB b y es with
      | some es' => ⟨True, .undef, some (r, .map shs agg c es')⟩
      | none => bad
    | _ => bad
  | _, _ => bad
def mapDelSem (shs : List Sh) (agg : Bool) (objs : Obs) (x k : DV) : Eff :=
  match x, keyT k with
  | .mref r, some kt => match objs r with
    | some (.map shs' agg' c es) => ⟨shs' = shs ∧ agg' = agg ∧ keyOk shs agg kt, .v (.tup []), some (r, .map shs agg c (delE kt es))⟩
    | _ => bad
  | _, _ => bad
def lenMSem (objs : Obs) : DV → Eff
  | .mref r => match objs r with
    | some (.map _ _ _ es) => ⟨True, .v (.int .i64 es.length), none⟩
    | _ => bad
  | _ => bad
def rangeMSem (name : Nat) (objs : Obs) : DV → Eff
  | .mref r => match objs r with
    | some (.map _ _ c _) => ⟨True, .iter name, some (name, .iter r c [] c)⟩
    | _ => bad
  | _ => bad
def entryMSem (objs : Obs) : DV → Eff
  | .iter r => match objs r with
    | some (.iter m _ seen last) => match objs m, seen.getLast? with
      | some (.map _ _ c es), some b => match es.find? fun e => e.1 == b with
        | some e => ⟨c = last, .tup [.v e.2.1, e.2.2], none⟩
        | none => bad
      | _, _ => bad
    | _ => bad
  | _ => bad

def callSem (Γ : Env) (f : FuncId) (objs : Obs) (args : List DV) : Eff :=
  match Γ f with
  | some s => ⟨tOks s.scalar objs args ∧ s.pre (tOfs objs args), .v (s.fn (tOfs objs args)), none⟩
  | none => bad

mutual
/-- The names in a value. -/
def names : DV → List Nat
  | .ptr r _ | .aref r _ | .aptr r _ _ _ | .mref r | .iter r | .asl r _ _ _ | .bsl r _ => [r]
  | .agg cs | .tup cs | .clo _ cs => namesL cs
  | _ => []
def namesL : List DV → List Nat
  | [] => []
  | d :: ds => names d ++ namesL ds
end
/-- The objects that the arguments name. -/
def restr (objs : Obs) (args : List DV) : Obs := fun n => if n ∈ namesL args then objs n else none
/-- The call reads no other objects than its arguments name, and writes none. -/
def readOk (k : List DV → Obs → SRes) (args : List DV) (objs : Obs) : Prop :=
  ∀ objs', (∀ n ∈ namesL args, objs' n = objs n) → (k args objs').ok ∧ (k args objs').objs = objs' ∧ (k args objs').val = (k args (restr objs args)).val
def callRSem (Γ : Env) (f : FuncId) (objs : Obs) (args : List DV) : Eff :=
  match Γ f with
  | some s => match s.st with
    | some k => ⟨readOk k args objs, (k args (restr objs args)).val, none⟩
    | none => bad
  | none => bad
theorem callRSem_ext {Γ : Env} {f : FuncId} {objs objs' : Obs} {args : List DV} (h : ∀ n ∈ namesL args, objs' n = objs n) : callRSem Γ f objs' args = callRSem Γ f objs args := by
  have h1 : restr objs' args = restr objs args := by
    funext n
    unfold restr
    split
    · rename_i hn; exact h n hn
    · rfl
  have h2 : ∀ k, readOk k args objs' = readOk k args objs := by
    intro k
    unfold readOk
    rw [h1]
    apply propext
    constructor
    · exact fun H o ho => H o fun n hn => (ho n hn).trans (h n hn).symm
    · exact fun H o ho => H o fun n hn => (ho n hn).trans (h n hn)
  unfold callRSem
  simp only [h1, h2]

/-- A call that answers with a slice over new memory. -/
def callFSem (Γ : Env) (f : FuncId) (name : Nat) (objs : Obs) (args : List DV) : Eff :=
  match Γ f with
  | some s => match s.fresh, s.fn (tOfs objs args) with
    | some (e, sz), .sl rows => ⟨tOks s.lend objs args ∧ s.pre (tOfs objs args), .aref name 0, some (name, .arr 0 e sz rows)⟩
    | _, _ => bad
  | none => bad

/-- What an operation does. -/
def sem (Γ : Env) (d : DOp) (name : Nat) (ρ : Nat → DV) (objs : Obs) : Eff :=
  match d with
  | .mov x => ⟨True, x.ev ρ, none⟩
  | .pick c a b => match c.ev ρ with
    | .v (.bool t) => ⟨True, if t then a.ev ρ else b.ev ρ, none⟩
    | _ => bad
  | .alloc zero => ⟨True, .ptr name 0, some (name, .box zero)⟩
  | .box x => ⟨boxable (x.ev ρ), .ptr name 0, some (name, .box (cellsOf (x.ev ρ)))⟩
  | .build zero parts => ⟨fillOk zero.length (parts.map fun p => (p.1, p.2.1, p.2.2.ev ρ)), .agg (fillD zero (parts.map fun p => (p.1, p.2.1, p.2.2.ev ρ))), none⟩
  | .bslice len sz zero parts =>
    if len = 0 then ⟨parts = [], .nil0, none⟩ else
    ⟨fillOk (len * sz) (parts.map fun p => (p.1, p.2.1, p.2.2.ev ρ)) ∧ pureCells (fillD zero (parts.map fun p => (p.1, p.2.1, p.2.2.ev ρ))),
      .v (.sl (chunk sz len (tOfs (fun _ => none) (fillD zero (parts.map fun p => (p.1, p.2.1, p.2.2.ev ρ)))))), none⟩
  | .load n agg x => loadSem n agg objs (x.ev ρ)
  | .store n x y => storeSem n objs (y.ev ρ) (x.ev ρ)
  | .bin op x y => binSem op (x.ev ρ) (y.ev ρ)
  | .eqT neg agg shs x y => ⟨tOk true objs (x.ev ρ) ∧ tOk true objs (y.ev ρ) ∧ (eqSem neg agg shs (tOf objs (x.ev ρ)) (tOf objs (y.ev ρ))).ok, (eqSem neg agg shs (tOf objs (x.ev ρ)) (tOf objs (y.ev ρ))).val, none⟩
  | .un op x => unSem op (x.ev ρ)
  | .conv k x => match x.ev ρ with
    | .v (.int _ n) => ⟨True, .v (.int k (k.wrap n)), none⟩
    | _ => bad
  | .addOff k x => addOffSem k (x.ev ρ)
  | .nilCheck x => nilCheckSem (x.ev ρ)
  | .idxAddr sz x i => idxSem sz objs (x.ev ρ) (i.ev ρ)
  | .arrAddr len sz x i => arrAddrSem len sz (x.ev ρ) (i.ev ρ)
  | .field off n agg x => fieldSem off n agg (x.ev ρ)
  | .slice sz x lo hi => sliceSem sz (lo.map (·.ev ρ)) (hi.map (·.ev ρ)) objs (x.ev ρ)
  | .extract i x => extractSem i (x.ev ρ)
  | .call f args => callSem Γ f objs (args.map (·.ev ρ))
  | .callF f args => callFSem Γ f name objs (args.map (·.ev ρ))
  | .callR f args => callRSem Γ f objs (args.map (·.ev ρ))
  | .callS _ _ | .callv _ _ | .entryM _ => bad
  | .len x => lenSem objs (x.ev ρ)
  | .lenS x => lenSSem (x.ev ρ)
  | .minmax m x y => minmaxSem m (x.ev ρ) (y.ev ρ)
  | .append e sz bytes x y => appendSem e sz bytes name objs (x.ev ρ) (y.ev ρ)
  | .mkSlice e sz bytes zero n => makeSem e sz bytes zero name (n.ev ρ)
  | .mkSliceB e sz bytes zero n => makeBSem sz bytes zero name (n.ev ρ)
  | .mkFn f caps => ⟨cellables (caps.map (·.ev ρ)), if pureB (caps.map (·.ev ρ)) then .v (.fn f (tOfs (fun _ => none) (caps.map (·.ev ρ)))) else .clo f (caps.map (·.ev ρ)), none⟩
  | .mkMap shs agg => ⟨True, .mref name, some (name, .map shs agg 0 [])⟩
  | .lookup shs agg zero ok x k => lookupSem shs agg zero ok objs (x.ev ρ) (k.ev ρ)
  | .mapUpd shs agg x k y => mapUpdSem shs agg objs (x.ev ρ) (k.ev ρ) (y.ev ρ)
  | .mapDel shs agg x k => mapDelSem shs agg objs (x.ev ρ) (k.ev ρ)
  | .mapEnt shs agg z x k => mapEntSem shs agg z objs (x.ev ρ) (k.ev ρ)
  | .entSt x s y => entStSem objs (x.ev ρ) (s.ev ρ) (y.ev ρ)
  | .lenM x => lenMSem objs (x.ev ρ)
  | .rangeM x => rangeMSem name objs (x.ev ρ)
  | .copy sz x y => copySem sz objs (x.ev ρ) (y.ev ρ)
  | .isNil kind neg x => isNilSem kind neg objs (x.ev ρ)
  | .indexS x i => indexSSem (x.ev ρ) (i.ev ρ)
  | .fail => bad

/-- The operations that are told whole: calls that may write, calls of function values. -/
def is4 : DOp → Bool
  | .callS _ _ | .callv _ _ | .entryM _ => true
  | _ => false

structure SEff where
  ok : Prop
  val : DV
  objs : Obs
  todo : List (List T)

/-- What a call of the function handed to an iterator does, where the objects are shared with the loop's body: none: the iterator hands over a fixed list. -/
class YieldK where
  k : Option (Nat × (List DV → Obs → SRes))
  names : ∀ l k', k = some (l, k') → ∀ args objs, (k' args objs).ok → ∀ x, objs x = none → (k' args objs).objs x = none
instance (priority := low) noYield : YieldK := ⟨none, fun _ _ h => by cases h⟩
@[simp] theorem noYield_k : @YieldK.k noYield = none := rfl
def yIs : DV → Prop
  | .v (.bool _) => True
  | _ => False
def yGo : DV → Bool
  | .v (.bool b) => b
  | _ => false
@[simp] theorem yIs_bool (b : Bool) : yIs (.v (.bool b)) = True := rfl
@[simp] theorem yGo_bool (b : Bool) : yGo (.v (.bool b)) = b := rfl
variable [YieldK]

/-- What these do. -/
def semS (Γ : Env) (d : DOp) (ρ : Nat → DV) (objs : Obs) (todo : List (List T)) : SEff :=
  match d with
  | .callS f args => match Γ f with
    | some s => match s.st with
      | some k => ⟨(k (args.map (·.ev ρ)) objs).ok, (k (args.map (·.ev ρ)) objs).val, (k (args.map (·.ev ρ)) objs).objs, todo⟩
      | none => ⟨False, .undef, objs, todo⟩
    | none => ⟨False, .undef, objs, todo⟩
  | .callv x args => match x.ev ρ with
    | .v (.fn (.func f) caps) => match Γ f with
      | some s => match s.st with
        | some k => ⟨(k (args.map (·.ev ρ) ++ caps.map .v) objs).ok, (k (args.map (·.ev ρ) ++ caps.map .v) objs).val, (k (args.map (·.ev ρ) ++ caps.map .v) objs).objs, todo⟩
        | none => ⟨(callSem Γ f objs (args.map (·.ev ρ) ++ caps.map .v)).ok, (callSem Γ f objs (args.map (·.ev ρ) ++ caps.map .v)).val, objs, todo⟩
      | none => ⟨False, .undef, objs, todo⟩
    | .clo (.func f) caps => match Γ f with
      | some s => match s.st with
        | some k => ⟨(k (args.map (·.ev ρ) ++ caps) objs).ok, (k (args.map (·.ev ρ) ++ caps) objs).val, (k (args.map (·.ev ρ) ++ caps) objs).objs, todo⟩
        | none => ⟨False, .undef, objs, todo⟩
      | none => ⟨False, .undef, objs, todo⟩
    | .yld => match todo with
      | x :: rest => ⟨YieldK.k = none ∧ tOks false objs (args.map (·.ev ρ)) ∧ tOfs objs (args.map (·.ev ρ)) = x ∧ objs = (fun _ => none), .v (.bool true), objs, rest⟩
      | [] => ⟨False, .undef, objs, todo⟩
    | .v (.raw v) => match YieldK.k with
      | some (l, k) => ⟨v = .func (.yield l) #[] #[] ∧ todo ≠ [] ∧ (k (args.map (·.ev ρ)) objs).ok ∧ yIs (k (args.map (·.ev ρ)) objs).val, (k (args.map (·.ev ρ)) objs).val, (k (args.map (·.ev ρ)) objs).objs, if yGo (k (args.map (·.ev ρ)) objs).val then todo else []⟩
      | none => ⟨False, .undef, objs, todo⟩
    | _ => ⟨False, .undef, objs, todo⟩
  | .entryM x => ⟨(entryMSem objs (x.ev ρ)).ok, (entryMSem objs (x.ev ρ)).val, objs, todo⟩
  | _ => ⟨False, .undef, objs, todo⟩

end Go.DM
/- The D-machine, part C: when a state of the machine describes a frame and a world of the model. Conditions: none. -/
set_option linter.unusedVariables false
set_option linter.unusedSectionVars false
namespace Go.DM
open Go.RowKit

/-- The world outside: what stood there before and may not be written is as it was. -/
structure Fr (base : Nat) (M : Nat → Prop) (w0 w : World) : Prop where
  os : w.os = w0.os
  tape : w.tape = w0.tape
  output : w.output = w0.output
  size0 : base ≤ w0.heap.size
  size : w0.heap.size ≤ w.heap.size
  block : ∀ k, k < base → ¬ M k → w.heap[k]? = w0.heap[k]?
  drawn : w0.drawn ≤ w.drawn

theorem Fr.refl {base : Nat} {M : Nat → Prop} {w : World} (h : base ≤ w.heap.size) : Fr base M w w := ⟨rfl, rfl, rfl, h, Nat.le_refl _, fun _ _ _ => rfl, Nat.le_refl _⟩
theorem Fr.trans {base : Nat} {M : Nat → Prop} {a b c : World} (h : Fr base M a b) (k : Fr base M b c) : Fr base M a c :=
  ⟨k.os.trans h.os, k.tape.trans h.tape, k.output.trans h.output, h.size0, Nat.le_trans h.size k.size, fun i hi hm => (k.block i hi hm).trans (h.block i hi hm), Nat.le_trans h.drawn k.drawn⟩

/-- Where the objects lie: the block of each box, the slice value of each array. -/
structure Loc where
  blk : Nat → Nat
  sl : Nat → Value
  yl : Nat := 0     -- the record of the loop whose body is handed to this iterator

/-- The block of a slice value with room. -/
def capBlock : Value → Option Nat
  | .slice (some a) _ c => if c = 0 then none else some a.block
  | _ => none

/-- The block of an object. -/
def Loc.own (L : Loc) (r : Nat) : Ob → Option Nat
  | .arr _ _ _ _ => capBlock (L.sl r)
  | _ => some (L.blk r)
/-- The blocks that may still be written: those of the callers, and those of the objects. -/
def WW (W : Nat → Prop) (objs : Obs) (L : Loc) (b : Nat) : Prop := W b ∨ ∃ r o, objs r = some o ∧ L.own r o = some b

section
variable (w : World) (W : Nat → Prop) (objs : Obs) (L : Loc)
mutual
def RelD : DV → Value → Prop
  | .undef, _ => True
  | .skip, x => x = Go.undef
  | .v t, x => RelT w (WW W objs L) t x
  | .nil0, x => ∃ a : Option Addr, x = .slice a 0 0
  | .ptr r off, x => (∃ cs, objs r = some (.box cs)) ∧ x = .pointer (some ⟨L.blk r, off, none⟩)
  | .aref r ver, x => (∃ (p : Option Addr) (n c : Nat), x = .slice p n c) ∧ ∃ ver' e sz rows, objs r = some (.arr ver' e sz rows) ∧ ver ≤ ver' ∧ (ver = ver' → x = L.sl r)
  | .tptr rows i off, x => ∃ b o sz, x = .pointer (some ⟨b, o + i.toNat * sz + off, none⟩) ∧ b < w.heap.size ∧ ¬ WW W objs L b ∧ RelRows w (WW W objs L) sz b o rows ∧ 0 ≤ i ∧ i < rows.length
  | .bptr cs off, x => ∃ b o, x = .pointer (some ⟨b, o + off, none⟩) ∧ b < w.heap.size ∧ ¬ WW W objs L b ∧ RelAt w (WW W objs L) b o cs
  | .aptr r ver i off, x => (∃ b o, x = .pointer (some ⟨b, o, none⟩)) ∧ ∃ ver' e sz rows, objs r = some (.arr ver' e sz rows) ∧ ver ≤ ver' ∧ (ver = ver' → ∃ g, capBlock (L.sl r) = some g ∧ x = .pointer (some ⟨g, i.toNat * sz + off, none⟩) ∧ 0 ≤ i ∧ i < rows.length)
  | .agg cs, x => ∃ vs, x = .agg vs ∧ RelDs cs vs.toList
  | .yld, x => x = .func (.yield L.yl) #[] #[]
  | .mref r, x => (∃ shs agg c es, objs r = some (.map shs agg c es)) ∧ x = .map (some (L.blk r))
  | .iter r, x => (∃ m s sn l, objs r = some (.iter m s sn l)) ∧ x = .pointer (some ⟨L.blk r, 0, none⟩)
  | .tup ds, x => ∃ vs, x = .tuple vs ∧ RelDa ds vs.toList
  | .asl r ver lo n, x => (∃ (p : Option Addr) (c : Nat), x = .slice p n c) ∧ ∃ ver' e sz rows, objs r = some (.arr ver' e sz rows) ∧ ver ≤ ver' ∧ (ver = ver' → lo + n ≤ rows.length ∧ ∃ p cap p2, L.sl r = .slice p rows.length cap ∧ x = .slice p2 n (cap - lo) ∧ (lo < cap → p2 = p.map (·.add (lo * sz))))
  | .clo f caps, x => ∃ vs, x = .func f #[] vs ∧ RelDs caps vs.toList
  | .bsl r n, x => (∃ cs, objs r = some (.box cs)) ∧ x = .slice (some ⟨L.blk r, 0, none⟩) n n
def RelDs : List DV → List Value → Prop
  | [], vs => vs = []
  | d :: ds, vs => ∃ x vs', vs = x :: vs' ∧ x.oneCell' = true ∧ RelD d x ∧ RelDs ds vs'
def RelDa : List DV → List Value → Prop
  | [], vs => vs = []
  | d :: ds, vs => ∃ x vs', vs = x :: vs' ∧ RelD d x ∧ RelDa ds vs'
end
/-- A map's entries. -/
def RelEs : List (Nat × T × DV) → List MapEntry → Prop
  | [], xs => xs = []
  | e :: es, xs => ∃ x xs', xs = x :: xs' ∧ x.born = e.1 ∧ RelT w (WW W objs L) e.2.1 x.key ∧ RelD w W objs L e.2.2 x.val ∧ RelEs es xs'

/-- An object and what lies in the world. -/
def ObOk (base : Nat) (M : Nat → Prop) (r : Nat) : Ob → Prop
  | .box cs => ∃ c e, w.heap[L.blk r]? = some (.cells c e (0, 0)) ∧ RelDs w W objs L cs c.toList ∧ (base ≤ L.blk r ∨ M (L.blk r))
  | .arr _ e sz rows => 0 < sz ∧ (∀ x ∈ rows, x.length = sz) ∧ (∀ g, capBlock (L.sl r) = some g → base ≤ g ∨ M g) ∧
      ((rows = [] ∧ ∃ a : Option Addr, L.sl r = .slice a 0 0) ∨
       ∃ g cap cur, L.sl r = .slice (some ⟨g, 0, none⟩) rows.length cap ∧ 0 < cap ∧ w.heap[g]? = some (.cells cur e (0, 0)) ∧ rows.length ≤ cap ∧ cap ≤ maxLen ∧ cur.size = cap * sz ∧
         RelL w (WW W objs L) rows.flatten (cur.toList.take (rows.length * sz)))
  | .map shs agg c es => ∃ arr, w.heap[L.blk r]? = some (.map arr c) ∧ RelEs w W objs L es arr.toList ∧ (∀ e ∈ es, keyOk shs agg e.2.1) ∧ (∀ e ∈ es, e.1 < c) ∧ (es.map (·.1)).Nodup ∧ (base ≤ L.blk r ∨ M (L.blk r))
  | .iter m s sn l => w.heap[L.blk r]? = some (.mapIter (some (L.blk m)) s sn.toArray l) ∧ (∃ shs agg c es, objs m = some (.map shs agg c es)) ∧ (base ≤ L.blk r ∨ M (L.blk r))
end


variable [Laid]
/-- The objects and the world fit. -/
structure RelO (base : Nat) (W M : Nat → Prop) (w0 : World) (objs : Obs) (w : World) (L : Loc) : Prop where
  fr : Fr base M w0 w
  ob : ∀ r o, objs r = some o → ObOk w W objs L base M r o
  apart : ∀ r r' o o' b, r ≠ r' → objs r = some o → objs r' = some o' → L.own r o = some b → L.own r' o' ≠ some b
  outer : ∀ r o b, objs r = some o → L.own r o = some b → ¬ W b
  under : ∀ b, W b → b < base
  gl : GOk w (WW W objs L)

/-- One step on: what was described before is described after. -/
structure Adv2 (W W' : Nat → Prop) (objs : Obs) (L : Loc) (w : World) (objs' : Obs) (L' : Loc) (w' : World) : Prop where
  keeps : Keeps (WW W objs L) w w'
  sub : ∀ b, b < w.heap.size → WW W' objs' L' b → WW W objs L b
  fix : ∀ r o, objs r = some o → o.kind ≠ 1 → L'.blk r = L.blk r ∧ ∃ o', objs' r = some o' ∧ o'.kind = o.kind
  arr : ∀ r ver e sz rows, objs r = some (.arr ver e sz rows) → ∃ ver' e' sz' rows', objs' r = some (.arr ver' e' sz' rows') ∧ ver ≤ ver' ∧ (ver' = ver → L'.sl r = L.sl r ∧ sz' = sz ∧ rows'.length = rows.length)
  yl : L'.yl = L.yl

theorem kind0 {o : Ob} (h : o.kind = 0) : ∃ cs, o = .box cs := by cases o <;> first | exact ⟨_, rfl⟩ | cases h
theorem kind2 {o : Ob} (h : o.kind = 2) : ∃ shs agg c es, o = .map shs agg c es := by cases o <;> first | exact ⟨_, _, _, _, rfl⟩ | cases h
theorem kind3 {o : Ob} (h : o.kind = 3) : ∃ m s sn l, o = .iter m s sn l := by cases o <;> first | exact ⟨_, _, _, _, rfl⟩ | cases h
section
variable {W W' : Nat → Prop} {objs : Obs} {L : Loc} {w : World} {objs' : Obs} {L' : Loc} {w' : World}
theorem Adv2.box (h : Adv2 W W' objs L w objs' L' w') (r : Nat) (cs : List DV) (hr : objs r = some (.box cs)) : L'.blk r = L.blk r ∧ ∃ cs', objs' r = some (.box cs') := by
  obtain ⟨h1, o', h2, h3⟩ := h.fix r _ hr (by simp [Ob.kind])
  obtain ⟨cs', rfl⟩ := kind0 h3
  exact ⟨h1, cs', h2⟩
theorem Adv2.mp (h : Adv2 W W' objs L w objs' L' w') (r : Nat) (hr : ∃ shs agg c es, objs r = some (.map shs agg c es)) : L'.blk r = L.blk r ∧ ∃ shs agg c es, objs' r = some (.map shs agg c es) := by
  obtain ⟨_, _, _, _, hr⟩ := hr
  obtain ⟨h1, o', h2, h3⟩ := h.fix r _ hr (by simp [Ob.kind])
  obtain ⟨a, b, c, d, rfl⟩ := kind2 h3
  exact ⟨h1, a, b, c, d, h2⟩
theorem Adv2.it (h : Adv2 W W' objs L w objs' L' w') (r : Nat) (hr : ∃ m s sn l, objs r = some (.iter m s sn l)) : L'.blk r = L.blk r ∧ ∃ m s sn l, objs' r = some (.iter m s sn l) := by
  obtain ⟨_, _, _, _, hr⟩ := hr
  obtain ⟨h1, o', h2, h3⟩ := h.fix r _ hr (by simp [Ob.kind])
  obtain ⟨a, b, c, d, rfl⟩ := kind3 h3
  exact ⟨h1, a, b, c, d, h2⟩
end

abbrev Adv (W : Nat → Prop) (objs : Obs) (L : Loc) (w : World) (objs' : Obs) (L' : Loc) (w' : World) : Prop := Adv2 W W objs L w objs' L' w'

theorem Adv.refl_of_keeps {W : Nat → Prop} {objs : Obs} {L : Loc} {w w' : World} (h : Keeps (WW W objs L) w w') : Adv W objs L w objs L w' :=
  ⟨h, fun _ _ x => x, fun _ o hr _ => ⟨rfl, o, hr, rfl⟩, fun _ ver e sz rows hr => ⟨ver, e, sz, rows, hr, Nat.le_refl _, fun _ => ⟨rfl, rfl, rfl⟩⟩, rfl⟩

mutual
theorem RelD.adv {W W' : Nat → Prop} {objs objs' : Obs} {L L' : Loc} {w w' : World} (h : Adv2 W W' objs L w objs' L' w') : ∀ (d : DV) (x : Value), RelD w W objs L d x → RelD w' W' objs' L' d x
  | .undef, x, r => by simp [RelD]
  | .skip, x, r => by simpa [RelD] using r
  | .v t, x, r => by
    simp only [RelD] at r ⊢
    exact RelT.keep h.keeps.toKeepsC h.sub t x r
  | .nil0, x, r => by simpa [RelD] using r
  | .ptr n off, x, r => by
    simp only [RelD] at r ⊢
    obtain ⟨⟨cs, hc⟩, hx⟩ := r
    have hb := h.box n cs hc
    exact ⟨hb.2, by rw [hb.1]; exact hx⟩
  | .aref n ver, x, r => by
    simp only [RelD] at r ⊢
    obtain ⟨hsh, ver', e, sz, rows, ho, hle, hx⟩ := r
    obtain ⟨ver2, e2, sz2, rows2, ho2, hle2, hs⟩ := h.arr n ver' e sz rows ho
    refine ⟨hsh, ver2, e2, sz2, rows2, ho2, Nat.le_trans hle hle2, fun hv => ?_⟩
    have h1 : ver2 = ver' := by omega
    rw [(hs h1).1]
    exact hx (by omega)
  | .tptr rows i off, x, r => by
    simp only [RelD] at r ⊢
    obtain ⟨b, o, sz, hx, hb, hn, hr, h0, h1⟩ := r
    exact ⟨b, o, sz, hx, Nat.lt_of_lt_of_le hb h.keeps.size, fun c => hn (h.sub b hb c), RelRows.keep h.keeps.toKeepsC h.sub hb hn sz o rows hr, h0, h1⟩
  | .bptr cs off, x, r => by
    simp only [RelD] at r ⊢
    obtain ⟨b, o, hx, hb, hn, hr⟩ := r
    exact ⟨b, o, hx, Nat.lt_of_lt_of_le hb h.keeps.size, fun c => hn (h.sub b hb c), RelAt.keep h.keeps.toKeepsC h.sub hb hn o cs hr⟩
  | .aptr n ver i off, x, r => by
    simp only [RelD] at r ⊢
    obtain ⟨hsh, ver', e, sz, rows, ho, hle, hx⟩ := r
    obtain ⟨ver2, e2, sz2, rows2, ho2, hle2, hs⟩ := h.arr n ver' e sz rows ho
    refine ⟨hsh, ver2, e2, sz2, rows2, ho2, Nat.le_trans hle hle2, fun hv => ?_⟩
    have h1 : ver2 = ver' := by omega
    obtain ⟨g, hg, hp, h0, hl⟩ := hx (by omega)
    obtain ⟨s1, s2, s3⟩ := hs h1
    exact ⟨g, by rw [s1]; exact hg, by rw [s2]; exact hp, h0, by rw [s3]; exact hl⟩
  | .agg cs, x, r => by
    simp only [RelD] at r ⊢
    obtain ⟨vs, hv, hr⟩ := r
    exact ⟨vs, hv, RelDs.adv h cs _ hr⟩
  | .yld, x, r => by simp only [RelD] at r ⊢; rw [h.yl]; exact r
  | .mref n, x, r => by
    simp only [RelD] at r ⊢
    have := h.mp n r.1
    exact ⟨this.2, by rw [this.1]; exact r.2⟩
  | .iter n, x, r => by
    simp only [RelD] at r ⊢
    have := h.it n r.1
    exact ⟨this.2, by rw [this.1]; exact r.2⟩
  | .tup ds, x, r => by
    simp only [RelD] at r ⊢
    obtain ⟨vs, hv, hr⟩ := r
    exact ⟨vs, hv, RelDa.adv h ds _ hr⟩
  | .clo f ds, x, r => by
    simp only [RelD] at r ⊢
    obtain ⟨vs, hv, hr⟩ := r
    exact ⟨vs, hv, RelDs.adv h ds _ hr⟩
  | .bsl n m, x, r => by
    simp only [RelD] at r ⊢
    obtain ⟨⟨cs, hc⟩, hx⟩ := r
    have hb := h.box n cs hc
    exact ⟨hb.2, by rw [hb.1]; exact hx⟩
  | .asl n ver lo m, x, r => by
    simp only [RelD] at r ⊢
    obtain ⟨hsh, ver', e, sz, rows, ho, hle, hx⟩ := r
    obtain ⟨ver2, e2, sz2, rows2, ho2, hle2, hs⟩ := h.arr n ver' e sz rows ho
    refine ⟨hsh, ver2, e2, sz2, rows2, ho2, Nat.le_trans hle hle2, fun hv => ?_⟩
    have h1 : ver2 = ver' := by omega
    obtain ⟨k1, p, cap, p2, k2, k3, k4⟩ := hx (by omega)
    obtain ⟨s1, s2, s3⟩ := hs h1
    exact ⟨by rw [s3]; exact k1, p, cap, p2, by rw [s1, s3]; exact k2, k3, by rw [s2]; exact k4⟩
theorem RelDs.adv {W W' : Nat → Prop} {objs objs' : Obs} {L L' : Loc} {w w' : World} (h : Adv2 W W' objs L w objs' L' w') : ∀ (ds : List DV) (xs : List Value), RelDs w W objs L ds xs → RelDs w' W' objs' L' ds xs
  | [], xs, r => by simpa [RelDs] using r
  | d :: ds, xs, r => by
    simp only [RelDs] at r ⊢
    obtain ⟨x, xs', hx, h1, hr, hrs⟩ := r
    exact ⟨x, xs', hx, h1, RelD.adv h d x hr, RelDs.adv h ds xs' hrs⟩
theorem RelDa.adv {W W' : Nat → Prop} {objs objs' : Obs} {L L' : Loc} {w w' : World} (h : Adv2 W W' objs L w objs' L' w') : ∀ (ds : List DV) (xs : List Value), RelDa w W objs L ds xs → RelDa w' W' objs' L' ds xs
  | [], xs, r => by simpa [RelDa] using r
  | d :: ds, xs, r => by
    simp only [RelDa] at r ⊢
    obtain ⟨x, xs', hx, hr, hrs⟩ := r
    exact ⟨x, xs', hx, RelD.adv h d x hr, RelDa.adv h ds xs' hrs⟩
end
theorem RelEs.adv {W W' : Nat → Prop} {objs objs' : Obs} {L L' : Loc} {w w' : World} (h : Adv2 W W' objs L w objs' L' w') : ∀ (es : List (Nat × T × DV)) (xs : List MapEntry), RelEs w W objs L es xs → RelEs w' W' objs' L' es xs
  | [], xs, r => by simpa [RelEs] using r
  | e :: es, xs, r => by
    simp only [RelEs] at r ⊢
    obtain ⟨x, xs', hx, h0, h1, hr, hrs⟩ := r
    exact ⟨x, xs', hx, h0, RelT.keep h.keeps.toKeepsC h.sub _ _ h1, RelD.adv h _ _ hr, RelEs.adv h es xs' hrs⟩

section
variable {w : World} {W : Nat → Prop} {objs : Obs} {L : Loc}
theorem RelDs.length : ∀ {ds : List DV} {vs : List Value}, RelDs w W objs L ds vs → vs.length = ds.length
  | [], _, h => by simp only [RelDs] at h; simp [h]
  | _ :: ds, _, h => by
    simp only [RelDs] at h
    obtain ⟨v, vs', rfl, _, _, hr⟩ := h
    simp [RelDs.length hr]
theorem RelDs.get : ∀ {ds : List DV} {vs : List Value} {i : Nat} {d : DV}, RelDs w W objs L ds vs → ds[i]? = some d → ∃ v, vs[i]? = some v ∧ v.oneCell' = true ∧ RelD w W objs L d v
  | [], _, _, _, _, h => by simp at h
  | x :: xs, _, 0, t, hr, h => by
    simp only [RelDs] at hr
    obtain ⟨v, vs', rfl, h1, h2, _⟩ := hr
    simp only [List.getElem?_cons_zero, Option.some.injEq] at h
    subst h
    exact ⟨v, rfl, h1, h2⟩
  | x :: xs, _, i + 1, t, hr, h => by
    simp only [RelDs] at hr
    obtain ⟨v, vs', rfl, _, _, hr⟩ := hr
    simpa using RelDs.get hr (by simpa using h)
theorem RelDs.append : ∀ {ds ds' : List DV} {vs vs' : List Value}, RelDs w W objs L ds vs → RelDs w W objs L ds' vs' → RelDs w W objs L (ds ++ ds') (vs ++ vs')
  | [], _, _, _, h, h' => by simp only [RelDs] at h; subst h; simpa using h'
  | d :: ds, _, _, _, h, h' => by
    simp only [RelDs] at h
    obtain ⟨v, vs', rfl, h1, h2, hr⟩ := h
    simp only [List.cons_append, RelDs]
    exact ⟨v, _, rfl, h1, h2, RelDs.append hr h'⟩
theorem RelDs.take (n : Nat) {ds : List DV} {vs : List Value} (h : RelDs w W objs L ds vs) : RelDs w W objs L (ds.take n) (vs.take n) := by
  induction n generalizing ds vs with
  | zero => simp [RelDs]
  | succ n ih =>
    cases ds with
    | nil => simp only [RelDs] at h; subst h; simp [RelDs]
    | cons d ds =>
      simp only [RelDs] at h
      obtain ⟨v, vs', rfl, h1, h2, hr⟩ := h
      simp only [List.take_succ_cons, RelDs]
      exact ⟨v, _, rfl, h1, h2, ih hr⟩
theorem RelDs.drop (n : Nat) {ds : List DV} {vs : List Value} (h : RelDs w W objs L ds vs) : RelDs w W objs L (ds.drop n) (vs.drop n) := by
  induction n generalizing ds vs with
  | zero => simpa using h
  | succ n ih =>
    cases ds with
    | nil => simp only [RelDs] at h; subst h; simp [RelDs]
    | cons d ds =>
      simp only [RelDs] at h
      obtain ⟨v, vs', rfl, h1, h2, hr⟩ := h
      simpa using ih hr
theorem RelL.append {ts ts' : List T} : ∀ {vs vs' : List Value}, RelL w W ts vs → RelL w W ts' vs' → RelL w W (ts ++ ts') (vs ++ vs') := by
  induction ts with
  | nil => intro vs vs' h h'; simp only [RelL] at h; subst h; simpa using h'
  | cons d ds ih =>
    intro vs vs' h h'
    simp only [RelL] at h
    obtain ⟨v, vs', rfl, h1, h2, hr⟩ := h
    simp only [List.cons_append, RelL]
    exact ⟨v, _, rfl, h1, h2, ih hr h'⟩
theorem RelDs.of_relL : ∀ {ts : List T} {vs : List Value}, RelL w (WW W objs L) ts vs → RelDs w W objs L (ts.map .v) vs
  | [], _, h => by simpa [RelL, RelDs] using h
  | t :: ts, _, h => by
    simp only [RelL] at h
    obtain ⟨v, vs', rfl, h1, h2, hr⟩ := h
    simp only [List.map_cons, RelDs]
    exact ⟨v, vs', rfl, h1, by simpa [RelD] using h2, RelDs.of_relL hr⟩
/-- The cells of a value. -/
theorem RelD.cells {d : DV} {x : Value} (h : RelD w W objs L d x) (hb : boxable d) : RelDs w W objs L (cellsOf d) x.cells.toList := by
  have one : ∀ {d : DV} {x : Value}, cellsOf d = [d] → x.oneCell' = true → RelD w W objs L d x → RelDs w W objs L (cellsOf d) x.cells.toList := by
    intro d x hc h1 h
    rw [hc]
    simp only [RelDs]
    refine ⟨x, [], ?_, h1, h, rfl⟩
    cases x <;> first | rfl | (simp [Value.oneCell'] at h1)
  cases d with
  | undef => exact hb.elim
  | skip => exact hb.elim
  | nil0 => obtain ⟨a, rfl⟩ := (by simpa only [RelD] using h); exact one rfl rfl (by simp only [RelD]; exact ⟨a, rfl⟩)
  | ptr r off => have h' := h; simp only [RelD] at h'; obtain ⟨_, rfl⟩ := h'; exact one rfl rfl h
  | aref r ver => have h' := h; simp only [RelD] at h'; obtain ⟨⟨p, n, c, rfl⟩, _⟩ := h'; exact one rfl rfl h
  | tptr rows i off => have h' := h; simp only [RelD] at h'; obtain ⟨b, o, sz, rfl, _⟩ := h'; exact one rfl rfl h
  | bptr cs off => have h' := h; simp only [RelD] at h'; obtain ⟨b, o, rfl, _⟩ := h'; exact one rfl rfl h
  | aptr r ver i off => have h' := h; simp only [RelD] at h'; obtain ⟨⟨b, o, rfl⟩, _⟩ := h'; exact one rfl rfl h
  | agg cs => simp only [RelD] at h; obtain ⟨vs, rfl, h⟩ := h; simpa [cellsOf, Value.cells] using h
  | yld => have h' := h; simp only [RelD] at h'; subst h'; exact one rfl rfl h
  | mref r => have h' := h; simp only [RelD] at h'; obtain ⟨_, rfl⟩ := h'; exact one rfl rfl h
  | iter r => have h' := h; simp only [RelD] at h'; obtain ⟨_, rfl⟩ := h'; exact one rfl rfl h
  | tup ds => exact hb.elim
  | clo f ds => have h' := h; simp only [RelD] at h'; obtain ⟨vs, rfl, _⟩ := h'; exact one rfl rfl h
  | asl r ver lo n => have h' := h; simp only [RelD] at h'; obtain ⟨⟨p, c, rfl⟩, _⟩ := h'; exact one rfl rfl h
  | bsl r n => have h' := h; simp only [RelD] at h'; obtain ⟨_, rfl⟩ := h'; exact one rfl rfl h
  | v t =>
    cases t with
    | agg cs => simp only [RelD, RelT] at h; obtain ⟨vs, rfl, h⟩ := h; simpa [cellsOf, Value.cells] using RelDs.of_relL h
    | tup ts => exact hb.elim
    | bool b => have h' := h; simp only [RelD, RelT] at h'; subst h'; exact one rfl rfl h
    | int k n => have h' := h; simp only [RelD, RelT] at h'; subst h'; exact one rfl rfl h
    | str s => have h' := h; simp only [RelD, RelT] at h'; subst h'; exact one rfl rfl h
    | sl rows =>
      have h' := h
      simp only [RelD, RelT] at h'
      rcases h' with ⟨_, a, c, rfl⟩ | ⟨b, o, cap, sz, rfl, _⟩ <;> exact one rfl rfl h
    | fn f caps => have h' := h; simp only [RelD, RelT] at h'; obtain ⟨vs, rfl, _⟩ := h'; exact one rfl rfl h
    | box cs => have h' := h; simp only [RelD, RelT] at h'; obtain ⟨b, o, rfl, _⟩ := h'; exact one rfl rfl h
    | raw y => have h' := h; simp only [RelD, RelT] at h'; subst h'; exact one rfl hb h
end

theorem ObOk.lt {base : Nat} {M : Nat → Prop} {w : World} {W : Nat → Prop} {objs : Obs} {L : Loc} {r : Nat} {o : Ob} (h : ObOk w W objs L base M r o) {b : Nat} (hb : L.own r o = some b) : b < w.heap.size := by
  cases o with
  | box cs =>
    obtain ⟨c, e, hc, _⟩ := h
    simp only [Loc.own, Option.some.injEq] at hb
    subst hb
    exact (Array.getElem?_eq_some_iff.1 hc).1
  | arr ver e sz rows =>
    obtain ⟨_, _, _, h⟩ := h
    simp only [Loc.own] at hb
    rcases h with ⟨_, a, ha⟩ | ⟨g, cap, cur, hv, hp, hg, _⟩
    · rw [ha] at hb; cases a <;> simp [capBlock] at hb
    · rw [hv] at hb
      simp only [capBlock, if_neg (Nat.pos_iff_ne_zero.1 hp), Option.some.injEq] at hb
      subst hb
      exact (Array.getElem?_eq_some_iff.1 hg).1
  | map shs agg c es =>
    obtain ⟨arr, hc, _⟩ := h
    simp only [Loc.own, Option.some.injEq] at hb
    subst hb
    exact (Array.getElem?_eq_some_iff.1 hc).1
  | iter m s sn l =>
    obtain ⟨hc, _⟩ := h
    simp only [Loc.own, Option.some.injEq] at hb
    subst hb
    exact (Array.getElem?_eq_some_iff.1 hc).1
theorem ObOk.reach {base : Nat} {M : Nat → Prop} {w : World} {W : Nat → Prop} {objs : Obs} {L : Loc} {r : Nat} {o : Ob} (h : ObOk w W objs L base M r o) {b : Nat} (hb : L.own r o = some b) : base ≤ b ∨ M b := by
  cases o with
  | box cs =>
    obtain ⟨c, e, hc, _, hm⟩ := h
    simp only [Loc.own, Option.some.injEq] at hb
    subst hb
    exact hm
  | arr ver e sz rows =>
    obtain ⟨_, _, hm, _⟩ := h
    exact hm b hb
  | map shs agg c es =>
    obtain ⟨arr, hc, _, _, _, _, hm⟩ := h
    simp only [Loc.own, Option.some.injEq] at hb
    subst hb
    exact hm
  | iter m s sn l =>
    obtain ⟨hc, _, hm⟩ := h
    simp only [Loc.own, Option.some.injEq] at hb
    subst hb
    exact hm

theorem ObOk.keep {base : Nat} {M : Nat → Prop} {w w' : World} {W : Nat → Prop} {objs objs' : Obs} {L L' : Loc} {r : Nat} {o : Ob} (ha : Adv W objs L w objs' L' w')
    (h : ObOk w W objs L base M r o) (hown : L'.blk r = L.blk r ∧ L'.sl r = L.sl r) (hblk : ∀ b, L.own r o = some b → w'.heap[b]? = w.heap[b]?) : ObOk w' W objs' L' base M r o := by
  cases o with
  | box cs =>
    obtain ⟨c, e, hc, hr, hm⟩ := h
    refine ⟨c, e, ?_, RelDs.adv ha cs _ hr, ?_⟩
    · rw [hown.1, hblk _ rfl]; exact hc
    · rw [hown.1]; exact hm
  | arr ver e sz rows =>
    obtain ⟨hsz, hrows, hm, h⟩ := h
    refine ⟨hsz, hrows, by rw [hown.2]; exact hm, ?_⟩
    rw [hown.2]
    rcases h with h | ⟨g, cap, cur, hv, hp, hg, h1, h2, h3, h4⟩
    · exact .inl h
    · refine .inr ⟨g, cap, cur, hv, hp, ?_, h1, h2, h3, RelL.keep ha.keeps.toKeepsC ha.sub _ _ h4⟩
      rw [hblk g (by simp [Loc.own, hv, capBlock, Nat.pos_iff_ne_zero.1 hp])]
      exact hg
  | map shs agg c es =>
    obtain ⟨arr, hc, hr, k1, k2, k3, hm⟩ := h
    refine ⟨arr, ?_, RelEs.adv ha es _ hr, k1, k2, k3, ?_⟩
    · rw [hown.1, hblk _ rfl]; exact hc
    · rw [hown.1]; exact hm
  | iter m s sn l =>
    obtain ⟨hc, hmp, hm⟩ := h
    have := ha.mp m hmp
    refine ⟨?_, this.2, ?_⟩
    · rw [hown.1, this.1, hblk _ rfl]; exact hc
    · rw [hown.1]; exact hm

/-- What no object's block is. -/
def Obj.plain : Obj → Prop
  | .cells _ _ _ | .map _ _ | .mapIter _ _ _ _ => True
  | _ => False
theorem ObOk.cells {base : Nat} {M : Nat → Prop} {w : World} {W : Nat → Prop} {objs : Obs} {L : Loc} {r : Nat} {o : Ob} (h : ObOk w W objs L base M r o) {b : Nat} (hb : L.own r o = some b) : ∃ x, w.heap[b]? = some x ∧ Obj.plain x := by
  cases o with
  | box cs =>
    obtain ⟨c, e, hc, _⟩ := h
    simp only [Loc.own, Option.some.injEq] at hb
    subst hb
    exact ⟨_, hc, trivial⟩
  | map shs agg c es =>
    obtain ⟨arr, hc, _⟩ := h
    simp only [Loc.own, Option.some.injEq] at hb
    subst hb
    exact ⟨_, hc, trivial⟩
  | iter m s sn l =>
    obtain ⟨hc, _⟩ := h
    simp only [Loc.own, Option.some.injEq] at hb
    subst hb
    exact ⟨_, hc, trivial⟩
  | arr ver e sz rows =>
    obtain ⟨_, _, _, h⟩ := h
    simp only [Loc.own] at hb
    rcases h with ⟨_, a, ha⟩ | ⟨g, cap, cur, hv, hp, hg, _⟩
    · rw [ha] at hb; cases a <;> simp [capBlock] at hb
    · rw [hv] at hb
      simp only [capBlock, if_neg (Nat.pos_iff_ne_zero.1 hp), Option.some.injEq] at hb
      subst hb
      exact ⟨_, hg, trivial⟩

def putO (objs : Obs) : Option (Nat × Ob) → Obs
  | none => objs
  | some (r, o) => fun x => if x = r then some o else objs x

/-- One object is laid or turned. -/
theorem RelO.put {base : Nat} {W M : Nat → Prop} {w0 w w' : World} {objs : Obs} {L L' : Loc} {r : Nat} {o' : Ob} (h : RelO base W M w0 objs w L)
    (hfr : Fr base M w0 w') (hsz : w.heap.size ≤ w'.heap.size)
    (hL : ∀ x, x ≠ r → L'.blk x = L.blk x ∧ L'.sl x = L.sl x) (hyl : L'.yl = L.yl)
    (hheap : ∀ b, b < w.heap.size → (∀ o, objs r = some o → L.own r o ≠ some b) → w'.heap[b]? = w.heap[b]?)
    (hnew : ∀ b, L'.own r o' = some b → (∃ o, objs r = some o ∧ L.own r o = some b) ∨ w.heap.size ≤ b)
    (hfix : ∀ o, objs r = some o → o.kind ≠ 1 → L'.blk r = L.blk r ∧ o'.kind = o.kind)
    (harr : ∀ ver e sz rows, objs r = some (.arr ver e sz rows) → ∃ ver' e' sz' rows', o' = .arr ver' e' sz' rows' ∧ ver ≤ ver' ∧ (ver' = ver → L'.sl r = L.sl r ∧ sz' = sz ∧ rows'.length = rows.length))
    (hob : Adv W objs L w (putO objs (some (r, o'))) L' w' → ObOk w' W (putO objs (some (r, o'))) L' base M r o') :
    RelO base W M w0 (putO objs (some (r, o'))) w' L' ∧ Adv W objs L w (putO objs (some (r, o'))) L' w' := by
  have hown : ∀ x (o : Ob), x ≠ r → L'.own x o = L.own x o := fun x o hx => by
    have := hL x hx
    cases o <;> simp [Loc.own, this.1, this.2]
  have hother : ∀ x o b, x ≠ r → objs x = some o → L.own x o = some b → w'.heap[b]? = w.heap[b]? := fun x o b hx ho hb =>
    hheap b ((h.ob x o ho).lt hb) fun o2 ho2 hb2 => h.apart x r o o2 b hx ho ho2 hb hb2
  have hnon : ∀ (b : Nat) x, w.heap[b]? = some x → ¬ Obj.plain x → w'.heap[b]? = some x := fun b x hb hx => by
    refine (hheap b (Array.getElem?_eq_some_iff.1 hb).1 fun o ho hb2 => ?_).trans hb
    obtain ⟨y, hc, hy⟩ := (h.ob r o ho).cells hb2
    rw [hc] at hb
    cases hb
    exact hx hy
  have adv : Adv W objs L w (putO objs (some (r, o'))) L' w' := by
    refine ⟨⟨⟨hsz, fun b c e fr hb hn => ?_⟩, fun b hb => hnon b _ hb (fun e => e), fun b r hb => hnon b _ hb (fun e => e)⟩, fun b hb hw => ?_, fun x o hx hk => ?_, fun x ver e sz rows hx => ?_, hyl⟩
    · exact (hheap b (Array.getElem?_eq_some_iff.1 hb).1 fun o2 ho2 hb2 => hn (.inr ⟨r, o2, ho2, hb2⟩)).trans hb
    · rcases hw with hw | ⟨x, o, ho, hb2⟩
      · exact .inl hw
      · by_cases hx : x = r
        · subst hx
          simp only [putO, if_true] at ho
          obtain rfl : o' = o := by simpa using ho
          rcases hnew b hb2 with ⟨o2, ho2, hb3⟩ | hge
          · exact .inr ⟨x, o2, ho2, hb3⟩
          · omega
        · simp only [putO, if_neg hx] at ho
          exact .inr ⟨x, o, ho, by rw [← hown x o hx]; exact hb2⟩
    · by_cases hxr : x = r
      · subst hxr
        obtain ⟨h1, h2⟩ := hfix o hx hk
        exact ⟨h1, o', by simp [putO], h2⟩
      · exact ⟨(hL x hxr).1, o, by simp [putO, hxr, hx], rfl⟩
    · by_cases hxr : x = r
      · subst hxr
        obtain ⟨ver', e', sz', rows', rfl, h2, h3⟩ := harr ver e sz rows hx
        exact ⟨ver', e', sz', rows', by simp [putO], h2, h3⟩
      · exact ⟨ver, e, sz, rows, by simp [putO, hxr, hx], Nat.le_refl _, fun _ => ⟨(hL x hxr).2, rfl, rfl⟩⟩
  refine ⟨⟨hfr, fun x o ho => ?_, fun x x' o o2 b hne ho ho2 hb hb2 => ?_, fun x o b ho hb hw => ?_, h.under, h.gl.keep adv.keeps.toKeepsC adv.sub⟩, adv⟩
  · by_cases hx : x = r
    · subst hx
      simp only [putO, if_true] at ho
      obtain rfl : o' = o := by simpa using ho
      exact hob adv
    · simp only [putO, if_neg hx] at ho
      exact ObOk.keep adv (h.ob x o ho) (hL x hx) fun b hb => hother x o b hx ho hb
  · by_cases hx : x = r
    · subst hx
      simp only [putO, if_true] at ho
      obtain rfl : o' = o := by simpa using ho
      have hx' : x' ≠ x := fun e => hne e.symm
      simp only [putO, if_neg hx'] at ho2
      rw [hown x' o2 hx'] at hb2
      rcases hnew b hb with ⟨o3, ho3, hb3⟩ | hge
      · exact h.apart x' x o2 o3 b hx' ho2 ho3 hb2 hb3
      · have := (h.ob x' o2 ho2).lt hb2
        omega
    · simp only [putO, if_neg hx] at ho
      rw [hown x o hx] at hb
      by_cases hx' : x' = r
      · subst hx'
        simp only [putO, if_true] at ho2
        obtain rfl : o' = o2 := by simpa using ho2
        rcases hnew b hb2 with ⟨o3, ho3, hb3⟩ | hge
        · exact h.apart x x' o o3 b hne ho ho3 hb hb3
        · have := (h.ob x o ho).lt hb
          omega
      · simp only [putO, if_neg hx'] at ho2
        rw [hown x' o2 hx'] at hb2
        exact h.apart x x' o o2 b hne ho ho2 hb hb2
  · by_cases hx : x = r
    · subst hx
      simp only [putO, if_true] at ho
      obtain rfl : o' = o := by simpa using ho
      rcases hnew b hb with ⟨o3, ho3, hb3⟩ | hge
      · exact h.outer x o3 b ho3 hb3 hw
      · have h1 := h.under b hw
        have h2 := h.fr.size0
        have h3 := h.fr.size
        omega
    · simp only [putO, if_neg hx] at ho
      rw [hown x o hx] at hb
      exact h.outer x o b ho hb hw

theorem GOk.start {w : World} {W : Nat → Prop} {L : Loc} (h : GOk w W) : GOk w (WW W (fun _ => none) L) :=
  h.keep (Keeps.refl W w).toKeepsC fun b _ hw => by
    rcases hw with hw | ⟨r, o, hr, _⟩
    · exact hw
    · cases hr
/-- The world grows, nothing else. -/
theorem RelO.grow {base : Nat} {W M : Nat → Prop} {w0 w w' : World} {objs : Obs} {L : Loc} (h : RelO base W M w0 objs w L) (hb : BelD w.heap.size w w') :
    RelO base W M w0 objs w' L ∧ Adv W objs L w objs L w' := by
  have adv : Adv W objs L w objs L w' := Adv.refl_of_keeps (Keeps.of_below hb.toBelow)
  have hle : base ≤ w.heap.size := Nat.le_trans h.fr.size0 h.fr.size
  refine ⟨⟨h.fr.trans ⟨hb.os, hb.tape, hb.output, hle, hb.size, fun k hk _ => hb.block k (by omega), hb.drawn⟩, fun r o ho => ?_, h.apart, h.outer, h.under, h.gl.keep adv.keeps.toKeepsC adv.sub⟩, adv⟩
  exact ObOk.keep adv (h.ob r o ho) ⟨rfl, rfl⟩ fun b hb2 => hb.block b ((h.ob r o ho).lt hb2)

end Go.DM
/- The D-machine, part D: how the model's operations are read as the machine's, and that each does in the model what the machine says. Conditions: none. -/
namespace Go.DM
open Go.RowKit
set_option linter.unusedSimpArgs false
set_option linter.unusedVariables false
set_option linter.unusedSectionVars false

def constD : Value → Option DV
  | .int k n => some (.v (.int k n))
  | .bool b => some (.v (.bool b))
  | .string s => some (.v (.str s))
  | .slice none 0 0 => some .nil0
  | .pointer none => some (.v (.raw (.pointer none)))
  | .nilFunc => some (.v (.raw .nilFunc))
  | .nilIface => some (.v (.raw .nilIface))
  | .map none => some (.v (.raw (.map none)))
  | _ => none
def constT : Value → Option T
  | .int k n => some (.int k n)
  | .bool b => some (.bool b)
  | .string s => some (.str s)
  | .slice none 0 0 => some (.sl [])
  | .pointer none => some (.raw (.pointer none))
  | .nilFunc => some (.raw .nilFunc)
  | .nilIface => some (.raw .nilIface)
  | .map none => some (.raw (.map none))
  | _ => none

variable [Laid]
def Opd.of : Operand → Option Opd
  | .tmp t => some (.tmp t)
  | .const v => (constD v).map .con
  | .func f => some (.con (.v (.fn (.func f) [])))
  | .global g => (Laid.cells.find? fun p => p.1 == g).map fun p => .con (.bptr p.2 0)

section
variable {w : World} {W : Nat → Prop} {objs : Obs} {L : Loc}
theorem constD_rel : ∀ {x : Value} {d : DV}, constD x = some d → RelD w W objs L d x ∧ x.oneCell' = true := by
  intro x d h
  unfold constD at h
  split at h <;> simp only [Option.some.injEq, reduceCtorEq] at h <;> subst h <;> simp [RelD, RelT, Value.oneCell']
theorem constT_rel : ∀ {x : Value} {t : T}, constT x = some t → RelT w W t x ∧ x.oneCell' = true ∧ leafT t = true := by
  intro x d h
  unfold constT at h
  split at h <;> simp only [Option.some.injEq, reduceCtorEq] at h <;> subst h <;> simp [RelT, Value.oneCell', leafT]
theorem mapM_constD_rel : ∀ {xs : List Value} {ds : List DV}, xs.mapM constD = some ds → RelDs w W objs L ds xs
  | [], ds, h => by simp at h; subst h; simp [RelDs]
  | x :: xs, ds, h => by
    simp only [List.mapM_cons, Option.pure_def, Option.bind_eq_bind, Option.bind_eq_some_iff, Option.some.injEq] at h
    obtain ⟨d, hd, ds', hds, rfl⟩ := h
    simp only [RelDs]
    have := constD_rel (w := w) (W := W) (objs := objs) (L := L) hd
    exact ⟨x, xs, rfl, this.2, this.1, mapM_constD_rel hds⟩
theorem mapM_constT_rel : ∀ {xs : List Value} {ds : List T}, xs.mapM constT = some ds → RelL w W ds xs
  | [], ds, h => by simp at h; subst h; simp [RelL]
  | x :: xs, ds, h => by
    simp only [List.mapM_cons, Option.pure_def, Option.bind_eq_bind, Option.bind_eq_some_iff, Option.some.injEq] at h
    obtain ⟨d, hd, ds', hds, rfl⟩ := h
    simp only [RelL]
    have := constT_rel (w := w) (W := W) hd
    exact ⟨x, xs, rfl, this.2.1, this.1, mapM_constT_rel hds⟩
theorem Opd.of_rel {a : Act} {ρ : Nat → DV} (hg : GOk w (WW W objs L)) (hρ : ∀ t, RelD w W objs L (ρ t) (a.tmps.getD t Go.undef)) {x : Operand} {y : Opd} (h : Opd.of x = some y) : RelD w W objs L (y.ev ρ) (a.eval x) := by
  cases x with
  | tmp t => simp only [Opd.of, Option.some.injEq] at h; subst h; simpa [Opd.ev, Act.eval] using hρ t
  | const v =>
    simp only [Opd.of, Option.map_eq_some_iff] at h
    obtain ⟨d, hd, rfl⟩ := h
    exact (constD_rel hd).1
  | func f => simp only [Opd.of, Option.some.injEq] at h; subst h; simp [Opd.ev, Act.eval, RelD, RelT, RelL]
  | global g =>
    simp only [Opd.of, Option.map_eq_some_iff] at h
    obtain ⟨p, hp, rfl⟩ := h
    have h1 := List.find?_some hp
    obtain rfl : p.1 = g := by simpa using h1
    obtain ⟨h2, h3, h4⟩ := hg p (List.mem_of_find?_eq_some hp)
    simp only [Opd.ev, Act.eval, RelD]
    exact ⟨p.1, 0, rfl, h2, h3, h4⟩

theorem add_off (b o n : Nat) : (⟨b, o, none⟩ : Addr).add n = ⟨b, o + n, none⟩ := by unfold Addr.add; split <;> simp_all

/-- Cells that are read one after another. -/
theorem run_loadRow {P : Program} {w : World} {b o : Nat} {vs : List Value} (h : ∀ j v, vs[j]? = some v → w.cell? ⟨b, o + j, none⟩ = some v) :
    (loadCells ⟨b, o, none⟩ vs.length).run P w = .ok vs.toArray w :=
  run_loadCells_list w _ vs fun j v hv => by rw [add_off]; exact h j v hv

theorem run_isAgg {P : Program} {w : World} {t : TypeId} {d : TypeDesc} (h : P.underlying t = some d) : (isAgg t).run P w = .ok (match d with | .struct _ | .array _ _ => true | _ => false) w := by
  simp only [isAgg, Sem.run_bind, run_underlying h, Result.andThen_ok]
  cases d <;> rfl
theorem run_sizeOf {P : Program} {w : World} {t : TypeId} {i : TypeInfo} (h : P.info? t = some i) : (sizeOf t).run P w = .ok i.size w := by
  simp [sizeOf, typeInfo, h]

def aggDesc : TypeDesc → Bool
  | .struct _ | .array _ _ => true
  | _ => false

/-- A variable that is read: its cells lie in a row. -/
theorem run_loadVar_row' {P : Program} {w : World} {t : TypeId} {d : TypeDesc} {i : TypeInfo} (hd : P.underlying t = some d) (hi : P.info? t = some i) {b o : Nat} {vs : List Value}
    (hl : vs.length = i.size) (h : ∀ j v, vs[j]? = some v → w.cell? ⟨b, o + j, none⟩ = some v) (hs : aggDesc d = true ∨ i.size = 1) :
    (Instr.loadAt t (.pointer (some ⟨b, o, none⟩))).run P w = .ok (if aggDesc d then .agg vs.toArray else vs.getD 0 Go.undef) w := by
  have h1 : (isAgg t).run P w = .ok (aggDesc d) w := by rw [run_isAgg hd]; cases d <;> rfl
  simp only [Instr.loadAt, Instr.sureAddr, loadVar, Sem.run_bind, Sem.run_pure, Result.andThen_ok, h1]
  by_cases ha : aggDesc d = true
  · simp only [ha, if_true, Sem.run_bind, run_sizeOf hi, Result.andThen_ok]
    rw [← hl, run_loadRow h]
    rfl
  · have h1 : vs.length = 1 := by rw [hl]; exact hs.resolve_left ha
    match vs, h1 with
    | [v], _ =>
      have := h 0 v rfl
      simp only [Nat.add_zero] at this
      simp [ha, this]

theorem RelAt.vals {b : Nat} : ∀ {ts : List T} {o : Nat}, RelAt w W b o ts → ∃ vs, RelL w W ts vs ∧ ∀ j v, vs[j]? = some v → w.cell? ⟨b, o + j, none⟩ = some v
  | [], o, _ => ⟨[], by simp [RelL], by simp⟩
  | t :: ts, o, h => by
    simp only [RelAt] at h
    obtain ⟨⟨v, hc, h1, hr⟩, hrs⟩ := h
    obtain ⟨vs, hv, hcs⟩ := RelAt.vals hrs
    refine ⟨v :: vs, by simp only [RelL]; exact ⟨v, vs, rfl, h1, hr, hv⟩, fun j u hu => ?_⟩
    cases j with
    | zero => simp only [List.getElem?_cons_zero, Option.some.injEq] at hu; subst hu; simpa using hc
    | succ j =>
      have := hcs j u (by simpa using hu)
      rwa [show o + (j + 1) = o + 1 + j by omega]
theorem RelL.split {ts ts' : List T} : ∀ {vs : List Value}, RelL w W (ts ++ ts') vs → ∃ v1 v2, vs = v1 ++ v2 ∧ RelL w W ts v1 ∧ RelL w W ts' v2 := by
  induction ts with
  | nil => intro vs h; exact ⟨[], vs, rfl, by simp [RelL], h⟩
  | cons t ts ih =>
    intro vs h
    simp only [List.cons_append, RelL] at h
    obtain ⟨v, vs', rfl, h1, h2, hr⟩ := h
    obtain ⟨v1, v2, rfl, ha, hb⟩ := ih hr
    exact ⟨v :: v1, v2, rfl, by simp only [RelL]; exact ⟨v, v1, rfl, h1, h2, ha⟩, hb⟩
theorem RelAt.of_relL {b o : Nat} {ts : List T} {vs : List Value} (h : RelL w W ts vs) (hc : ∀ j v, vs[j]? = some v → w.cell? ⟨b, o + j, none⟩ = some v) : RelAt w W b o ts :=
  RelAt.of_cells ts o fun j t ht => by
    obtain ⟨v, hv, h1, hr⟩ := RelL.get h ht
    exact ⟨v, hc j v hv, h1, hr⟩
theorem RelRows.of_flatten {sz b : Nat} : ∀ {rows : List (List T)} {o : Nat} {vs : List Value}, RelL w W rows.flatten vs → (∀ r ∈ rows, r.length = sz) → (∀ j v, vs[j]? = some v → w.cell? ⟨b, o + j, none⟩ = some v) → RelRows w W sz b o rows
  | [], _, _, _, _, _ => by simp [RelRows]
  | r :: rs, o, vs, h, hl, hc => by
    simp only [List.flatten_cons] at h
    obtain ⟨v1, v2, rfl, ha, hb⟩ := RelL.split h
    have hr : r.length = sz := hl r (by simp)
    have hv1 : v1.length = sz := by rw [RelL.length ha, hr]
    simp only [RelRows]
    refine ⟨hr, RelAt.of_relL ha fun j v hv => hc j v ?_, RelRows.of_flatten hb (fun x hx => hl x (by simp [hx])) fun j v hv => ?_⟩
    · rw [List.getElem?_append_left (List.getElem?_eq_some_iff.1 hv).1]; exact hv
    · have := hc (sz + j) v (by rw [List.getElem?_append_right (by omega), hv1]; simpa using hv)
      rwa [show o + sz + j = o + (sz + j) by omega]
theorem RelRows.flatten {sz b : Nat} : ∀ {rows : List (List T)} {o : Nat}, RelRows w W sz b o rows → ∃ vs, vs.length = rows.length * sz ∧ RelL w W rows.flatten vs ∧ ∀ j v, vs[j]? = some v → w.cell? ⟨b, o + j, none⟩ = some v
  | [], o, _ => ⟨[], by simp, by simp [RelL], by simp⟩
  | r :: rs, o, h => by
    simp only [RelRows] at h
    obtain ⟨v1, h1, hc1⟩ := RelAt.vals h.2.1
    obtain ⟨v2, hl2, h2, hc2⟩ := RelRows.flatten h.2.2
    have hv1 : v1.length = sz := by rw [RelL.length h1, h.1]
    refine ⟨v1 ++ v2, by simp [hv1, hl2, Nat.add_mul]; omega, by simpa using RelL.append h1 h2, fun j v hv => ?_⟩
    by_cases hj : j < v1.length
    · rw [List.getElem?_append_left hj] at hv; exact hc1 j v hv
    · rw [List.getElem?_append_right (by omega)] at hv
      have := hc2 (j - v1.length) v hv
      rwa [show o + sz + (j - v1.length) = o + j by omega] at this

theorem ObOk.rows {base : Nat} {M : Nat → Prop} {r ver e sz : Nat} {rows : List (List T)} (h : ObOk w W objs L base M r (.arr ver e sz rows)) {g : Nat} (hg : capBlock (L.sl r) = some g) :
    RelRows w (WW W objs L) sz g 0 rows := by
  obtain ⟨_, hl, _, h⟩ := h
  rcases h with ⟨rfl, _⟩ | ⟨g', cap, cur, hv, hp, hh, h1, h2, h3, h4⟩
  · simp [RelRows]
  · rw [hv] at hg
    simp only [capBlock, if_neg (Nat.pos_iff_ne_zero.1 hp), Option.some.injEq] at hg
    subst hg
    refine RelRows.of_flatten h4 hl fun j v hv => ?_
    rw [Nat.zero_add, cell_of_row w g' j cur e (0, 0) hh]
    rw [List.getElem?_take] at hv
    split at hv
    · simpa using hv
    · cases hv

theorem rowAt_get {rows : List (List T)} {i : Int} (h0 : 0 ≤ i) (h1 : i < rows.length) : rows[i.toNat]? = some (rowAt rows i) := by
  have : i.toNat < rows.length := by omega
  simp [rowAt, List.getD, this]

theorem RelL.take (n : Nat) {ds : List T} : ∀ {vs : List Value}, RelL w W ds vs → RelL w W (ds.take n) (vs.take n) := by
  induction n generalizing ds with
  | zero => intro vs h; simp [RelL]
  | succ n ih =>
    intro vs h
    cases ds with
    | nil => simp only [RelL] at h; subst h; simp [RelL]
    | cons d ds =>
      simp only [RelL] at h
      obtain ⟨v, vs', rfl, h1, h2, hr⟩ := h
      simp only [List.take_succ_cons, RelL]
      exact ⟨v, _, rfl, h1, h2, ih hr⟩
theorem RelL.drop (n : Nat) {ds : List T} : ∀ {vs : List Value}, RelL w W ds vs → RelL w W (ds.drop n) (vs.drop n) := by
  induction n generalizing ds with
  | zero => intro vs h; simpa using h
  | succ n ih =>
    intro vs h
    cases ds with
    | nil => simp only [RelL] at h; subst h; simp [RelL]
    | cons d ds =>
      simp only [RelL] at h
      obtain ⟨v, vs', rfl, h1, h2, hr⟩ := h
      simpa using ih hr

theorem load_tree {P : Program} {t : TypeId} {d : TypeDesc} {i : TypeInfo} (hd : P.underlying t = some d) (hi : P.info? t = some i) {b o off : Nat} {cs : List T}
    (hr : RelAt w (WW W objs L) b o cs) (hok : off + i.size ≤ cs.length ∧ (aggDesc d = true ∨ i.size = 1)) :
    ∃ v, (Instr.loadAt t (.pointer (some ⟨b, o + off, none⟩))).run P w = .ok v w ∧
      RelD w W objs L (if aggDesc d then .v (.agg ((cs.drop off).take i.size)) else .v (cs.getD off default)) v := by
  obtain ⟨vs, hv, hc⟩ := RelAt.vals hr
  have hl := RelL.length hv
  have hv2 := RelL.take i.size (RelL.drop off hv)
  refine ⟨_, run_loadVar_row' hd hi (vs := (vs.drop off).take i.size) (by simp; omega) (fun j v hj => ?_) hok.2, ?_⟩
  · rw [List.getElem?_take] at hj
    split at hj
    · rw [List.getElem?_drop] at hj
      have := hc _ _ hj
      rwa [show o + off + j = o + (off + j) by omega]
    · cases hj
  · by_cases ha : aggDesc d = true
    · simp only [ha, if_true, RelD, RelT]
      exact ⟨_, rfl, by simpa using hv2⟩
    · have h1 : i.size = 1 := hok.2.resolve_left ha
      have hlt : off < cs.length := by omega
      obtain ⟨v, hv', _, hr'⟩ := RelL.get hv (i := off) (t := cs[off]) (by simp [hlt])
      have e1 : (List.take i.size (List.drop off vs)).getD 0 Go.undef = v := by
        rw [h1]
        simp only [List.getD, List.getElem?_take, List.getElem?_drop, Nat.add_zero, hv']
        simp
      have e2 : cs.getD off default = cs[off] := by simp [List.getD, hlt]
      simp only [ha, if_false, e1, e2, RelD]
      exact hr'

theorem load_sound {P : Program} {base : Nat} {M : Nat → Prop} {w0 : World} (hO : RelO base W M w0 objs w L) {t : TypeId} {d : TypeDesc} {i : TypeInfo} (hd : P.underlying t = some d) (hi : P.info? t = some i)
    {x : DV} {xv : Value} (hx : RelD w W objs L x xv) (hok : (loadSem i.size (aggDesc d) objs x).ok) :
    (loadSem i.size (aggDesc d) objs x).put = none ∧ ∃ v, (Instr.loadAt t xv).run P w = .ok v w ∧ RelD w W objs L (loadSem i.size (aggDesc d) objs x).val v := by
  cases x with
  | ptr r off =>
    simp only [RelD] at hx
    obtain ⟨⟨cs, hc⟩, rfl⟩ := hx
    simp only [loadSem, hc] at hok ⊢
    refine ⟨trivial, ?_⟩
    obtain ⟨c, e, hh, hr, _⟩ := hO.ob r _ hc
    have hl := RelDs.length hr
    have hr2 := RelDs.take i.size (RelDs.drop off hr)
    refine ⟨_, run_loadVar_row' hd hi (vs := (c.toList.drop off).take i.size) (by simp at hl ⊢; omega) (fun j v hj => ?_) hok.2, ?_⟩
    · rw [List.getElem?_take] at hj
      split at hj
      · rw [List.getElem?_drop] at hj
        rw [cell_of_row w _ _ c e (0, 0) hh]
        simpa using hj
      · cases hj
    · by_cases ha : aggDesc d = true
      · simp only [ha, if_true, RelD]
        exact ⟨_, rfl, by simpa using hr2⟩
      · have h1 : i.size = 1 := hok.2.resolve_left ha
        have hlt : off < cs.length := by omega
        obtain ⟨v, hv', _, hr'⟩ := RelDs.get hr (i := off) (d := cs[off]) (by simp [hlt])
        have e1 : (List.take i.size (List.drop off c.toList)).getD 0 Go.undef = v := by
          rw [h1]
          simp only [List.getD, List.getElem?_take, List.getElem?_drop, Nat.add_zero, hv']
          simp
        have e2 : cs.getD off .undef = cs[off] := by simp [List.getD, hlt]
        simp only [ha, if_false, e1, e2]
        exact hr'
  | tptr rows j off =>
    simp only [RelD] at hx
    obtain ⟨b, o, sz, rfl, hb, hn, hr, h0, h1⟩ := hx
    simp only [loadSem] at hok ⊢
    exact ⟨trivial, load_tree hd hi (RelRows.row hr (rowAt_get h0 h1)).2 hok⟩
  | bptr cs off =>
    simp only [RelD] at hx
    obtain ⟨b, o, rfl, hb, hn, hr⟩ := hx
    simp only [loadSem] at hok ⊢
    exact ⟨trivial, load_tree hd hi hr hok⟩
  | v t' =>
    cases t' with
    | box cs =>
      simp only [RelD, RelT] at hx
      obtain ⟨b, o, rfl, hb, hn, hr⟩ := hx
      simp only [loadSem] at hok ⊢
      have := load_tree (objs := objs) (L := L) (W := W) hd hi (off := 0) hr (by simpa using hok)
      refine ⟨trivial, ?_⟩
      simpa using this
    | _ => simp [loadSem, bad] at hok
  | aptr r ver j off =>
    simp only [RelD] at hx
    obtain ⟨_, ver', e, sz, rows, ho, hle, hx⟩ := hx
    simp only [loadSem, ho] at hok ⊢
    obtain ⟨g, hg, rfl, h0, h1⟩ := hx hok.1
    have hrr := ObOk.rows (hO.ob r _ ho) hg
    have := (RelRows.row hrr (rowAt_get h0 h1)).2
    rw [Nat.zero_add] at this
    exact ⟨trivial, load_tree hd hi this hok.2⟩
  | _ => simp [loadSem, bad] at hok
end
end Go.DM
/- The D-machine, part E: stores, new objects, appends: each does in the model what the machine says. Conditions: none. -/
namespace Go.DM
open Go.RowKit
set_option linter.unusedSimpArgs false
set_option linter.unusedVariables false
set_option linter.unusedSectionVars false
variable [Laid]
section
variable {w : World} {W : Nat → Prop} {objs : Obs} {L : Loc}

theorem boxable_of_cells {y : DV} (h : cellables (cellsOf y)) (hl : (cellsOf y).length ≠ 0 ∨ True) : boxable y := by
  cases y with
  | undef => simp [cellsOf, cellables, cellable] at h
  | skip => simp [cellsOf, cellables, cellable] at h
  | v t =>
    cases t <;> simp_all [cellsOf, cellables, cellable, boxable, leafT]
  | tup ds => simp [cellsOf, cellables, cellable] at h
  | _ => simp [boxable]

theorem cellables_one {y : DV} {yv : Value} (hy : RelD w W objs L y yv) (h : cellables (cellsOf y)) : RelDs w W objs L (cellsOf y) yv.cells.toList :=
  RelD.cells hy (boxable_of_cells h (.inr trivial))

theorem RelDs.one {ds : List DV} : ∀ {vs : List Value}, RelDs w W objs L ds vs → ∀ v ∈ vs, v.oneCell' = true := by
  induction ds with
  | nil => intro vs h; simp only [RelDs] at h; subst h; simp
  | cons d ds ih =>
    intro vs h
    simp only [RelDs] at h
    obtain ⟨v, vs', rfl, h1, _, hr⟩ := h
    intro u hu
    rcases List.mem_cons.1 hu with rfl | hu
    · exact h1
    · exact ih hr u hu
theorem RelL.one {ds : List T} : ∀ {vs : List Value}, RelL w W ds vs → ∀ v ∈ vs, v.oneCell' = true := by
  induction ds with
  | nil => intro vs h; simp only [RelL] at h; subst h; simp
  | cons d ds ih =>
    intro vs h
    simp only [RelL] at h
    obtain ⟨v, vs', rfl, h1, _, hr⟩ := h
    intro u hu
    rcases List.mem_cons.1 hu with rfl | hu
    · exact h1
    · exact ih hr u hu
theorem RelDs.splice {a b : List DV} {va vb : List Value} (off : Nat) (ha : RelDs w W objs L a va) (hb : RelDs w W objs L b vb) : RelDs w W objs L (splice a off b) (splice va off vb) := by
  unfold DM.splice
  rw [← RelDs.length hb]
  exact RelDs.append (RelDs.append (RelDs.take off ha) hb) (RelDs.drop _ ha)
theorem RelL.splice {a b : List T} {va vb : List Value} (off : Nat) (ha : RelL w W a va) (hb : RelL w W b vb) : RelL w W (splice a off b) (splice va off vb) := by
  unfold DM.splice
  rw [← RelL.length hb]
  exact RelL.append (RelL.append (RelL.take off ha) hb) (RelL.drop _ ha)

theorem fr_setRow {base : Nat} {M : Nat → Prop} {w0 : World} {g : Nat} (cs : Array Value) (h : Fr base M w0 w) (hg : base ≤ g ∨ M g) : Fr base M w0 (w.setRow g cs) :=
  ⟨h.os, h.tape, h.output, h.size0, by simpa using h.size, fun k hk hm => by
    rw [setRow_other w g k cs (by rintro rfl; exact hg.elim (fun h1 => by omega) hm)]
    exact h.block k hk hm, by simpa using h.drawn⟩

theorem store_run {P : Program} {t : TypeId} {i : TypeInfo} (hi : P.info? t = some i) {g o : Nat} {e : TypeId} {cur : Array Value} (hg : w.heap[g]? = some (.cells cur e (0, 0))) {yv : Value}
    (hl : yv.cells.size = i.size) (hfit : o + i.size ≤ cur.size) (h1 : ∀ v ∈ yv.cells.toList, v.oneCell' = true) :
    (Instr.storeAt t (.pointer (some ⟨g, o, none⟩)) yv).run P w = .ok () (w.setRow g (splice cur.toList o yv.cells.toList).toArray) := by
  have hs := run_storeCells_at P g o e yv.cells.toList 0 cur w hg (by simp [hl]; omega) h1
  simp only [Nat.add_zero] at hs
  simp only [Instr.storeAt, Instr.sureAddr, storeVar, Sem.run_bind, Sem.run_pure, Result.andThen_ok, run_sizeOf hi, hl, ne_eq, not_true_eq_false, if_false]
  exact hs

theorem store_box {P : Program} {base : Nat} {M : Nat → Prop} {w0 : World} (hO : RelO base W M w0 objs w L) {t : TypeId} {i : TypeInfo} (hi : P.info? t = some i)
    {r off : Nat} {cs : List DV} (hc : objs r = some (.box cs)) {y : DV} {yv : Value} (hy : RelD w W objs L y yv)
    (hn : (cellsOf y).length = i.size) (hfit : off + i.size ≤ cs.length) (hce : cellables (cellsOf y)) :
    ∃ w', (Instr.storeAt t (.pointer (some ⟨L.blk r, off, none⟩)) yv).run P w = .ok () w' ∧
      RelO base W M w0 (putO objs (some (r, .box (splice cs off (cellsOf y))))) w' L ∧ Adv W objs L w (putO objs (some (r, .box (splice cs off (cellsOf y))))) L w' := by
  obtain ⟨c, e, hh, hr, hm⟩ := hO.ob r _ hc
  have hys := cellables_one hy hce
  have hyl : yv.cells.size = i.size := by have := RelDs.length hys; simpa [hn] using this
  have hcl : c.size = cs.length := by simpa using RelDs.length hr
  refine ⟨_, store_run hi hh hyl (by omega) (RelDs.one hys), ?_⟩
  refine RelO.put hO (fr_setRow _ hO.fr hm) (by simp) (fun _ _ => ⟨rfl, rfl⟩) rfl (fun b _ hb => setRow_other w _ b _ (fun x => hb _ hc (by simp [Loc.own, x])))
    (fun b hb => .inl ⟨_, hc, hb⟩) (fun o' ho' _ => by rw [hc] at ho'; cases ho'; exact ⟨rfl, rfl⟩) (fun ver e sz rows h => by rw [hc] at h; cases h) (fun adv => ?_)
  refine ⟨_, e, setRow_heap w _ c _ e _ hh, ?_, hm⟩
  exact RelDs.splice off (RelDs.adv adv _ _ hr) (RelDs.adv adv _ _ hys)

theorem length_splice {α : Type} {l new : List α} {off : Nat} (h : off + new.length ≤ l.length) : (splice l off new).length = l.length := by
  simp [splice]; omega
theorem take_splice {α : Type} {l new : List α} {off n : Nat} (h : off + new.length ≤ n) (hn : n ≤ l.length) : (splice l off new).take n = splice (l.take n) off new := by
  unfold splice
  have e1 : List.take off (List.take n l) = List.take off l := by rw [List.take_take]; congr 1; omega
  have e2 : (List.take off l ++ new).length = off + new.length := by simp; omega
  rw [e1, List.drop_take, List.take_append, e2, List.take_of_length_le (by omega)]
theorem flatten_set {sz : Nat} : ∀ (rows : List (List T)) (i off : Nat) (new : List T), (∀ r ∈ rows, r.length = sz) → i < rows.length → off + new.length ≤ sz →
    (rows.set i (splice (rows.getD i []) off new)).flatten = splice rows.flatten (i * sz + off) new
  | [], i, _, _, _, h, _ => by simp at h
  | r :: rs, 0, off, new, hl, _, hf => by
    have hr : r.length = sz := hl r (by simp)
    simp only [List.getD_cons_zero, List.set_cons_zero, List.flatten_cons, splice, Nat.zero_mul, Nat.zero_add]
    rw [List.take_append_of_le_length (by omega), List.drop_append_of_le_length (by omega)]
    simp
  | r :: rs, i + 1, off, new, hl, h, hf => by
    have hr : r.length = sz := hl r (by simp)
    have ih := flatten_set rs i off new (fun x hx => hl x (by simp [hx])) (by simpa using h) hf
    simp only [List.getD_cons_succ, List.set_cons_succ, List.flatten_cons]
    rw [show ∀ (a b : List T), splice (a ++ b) ((i + 1) * sz + off) new = (a ++ b).take ((i + 1) * sz + off) ++ new ++ (a ++ b).drop ((i + 1) * sz + off + new.length) from fun _ _ => rfl]
    have e : (i + 1) * sz + off = r.length + (i * sz + off) := by rw [Nat.add_mul, hr]; omega
    rw [e, List.take_append, List.drop_append]
    have e1 : r.length + (i * sz + off) - r.length = i * sz + off := by omega
    have e2 : r.length + (i * sz + off) + new.length - r.length = i * sz + off + new.length := by omega
    rw [e1, e2, List.take_of_length_le (l := r) (by omega), List.drop_eq_nil_of_le (as := r) (by omega)]
    simp only [List.nil_append, List.append_assoc]
    rw [ih]
    simp only [splice, List.append_assoc]
theorem relT_of_pure {objs2 : Obs} {d : DV} {v : Value} (hp : pureCell d) (h : RelD w W objs L d v) : RelT w (WW W objs L) (tOf objs2 d) v := by
  cases d with
  | v t => simpa [tOf, RelD] using h
  | nil0 =>
    simp only [RelD] at h
    obtain ⟨a, rfl⟩ := h
    simp only [tOf, RelT]
    exact .inl ⟨trivial, a, 0, rfl⟩
  | _ => exact hp.elim
theorem relL_of_pure {objs2 : Obs} : ∀ {ds : List DV} {vs : List Value}, pureCells ds → RelDs w W objs L ds vs → RelL w (WW W objs L) (tOfs objs2 ds) vs
  | [], vs, _, h => by simpa [RelDs, RelL, tOfs] using h
  | d :: ds, vs, hp, h => by
    simp only [pureCells] at hp
    simp only [RelDs] at h
    obtain ⟨v, vs', rfl, h1, h2, hr⟩ := h
    simp only [tOfs, RelL]
    exact ⟨v, vs', rfl, h1, relT_of_pure hp.1 h2, relL_of_pure hp.2 hr⟩
theorem pure_cellables : ∀ {ds : List DV}, pureCells ds → cellables ds
  | [], _ => trivial
  | d :: ds, h => by
    simp only [pureCells] at h
    simp only [cellables]
    refine ⟨?_, pure_cellables h.2⟩
    have := h.1
    cases d <;> simp_all [pureCell, cellable]
theorem tOfs_length : ∀ (ds : List DV), (tOfs objs ds).length = ds.length
  | [] => rfl
  | _ :: ds => by simp [tOfs, tOfs_length ds]

theorem store_arr {P : Program} {base : Nat} {M : Nat → Prop} {w0 : World} (hO : RelO base W M w0 objs w L) {t : TypeId} {i : TypeInfo} (hi : P.info? t = some i)
    {r off ver e sz : Nat} {rows : List (List T)} {j : Int} {g : Nat} (hc : objs r = some (.arr ver e sz rows)) (hg : capBlock (L.sl r) = some g) (h0 : 0 ≤ j) (h1 : j < rows.length)
    {y : DV} {yv : Value} (hy : RelD w W objs L y yv) (hn : (cellsOf y).length = i.size) (hfit : off + i.size ≤ sz) (hce : pureCells (cellsOf y)) :
    ∃ w', (Instr.storeAt t (.pointer (some ⟨g, j.toNat * sz + off, none⟩)) yv).run P w = .ok () w' ∧
      RelO base W M w0 (putO objs (some (r, .arr ver e sz (rows.set j.toNat (splice (rowAt rows j) off (tOfs objs (cellsOf y))))))) w' L ∧
      Adv W objs L w (putO objs (some (r, .arr ver e sz (rows.set j.toNat (splice (rowAt rows j) off (tOfs objs (cellsOf y))))))) L w' := by
  have hob := hO.ob r _ hc
  obtain ⟨hsz, hrows, hm, hal⟩ := hob
  rcases hal with ⟨rfl, _⟩ | ⟨g', cap, cur, hv, hp, hh, hle, hcap, hcur, hrel⟩
  · simp at h1; omega
  · rw [hv] at hg
    simp only [capBlock, if_neg (Nat.pos_iff_ne_zero.1 hp), Option.some.injEq] at hg
    subst hg
    have hys := cellables_one hy (pure_cellables hce)
    have hyl : yv.cells.size = i.size := by have := RelDs.length hys; simpa [hn] using this
    have hj : j.toNat < rows.length := by omega
    have hjs : j.toNat * sz + sz ≤ rows.length * sz := by
      have := Nat.mul_le_mul_right sz (show j.toNat + 1 ≤ rows.length by omega)
      rwa [Nat.add_mul, Nat.one_mul] at this
    have hcs : rows.length * sz ≤ cap * sz := Nat.mul_le_mul_right sz hle
    have hnl : (tOfs objs (cellsOf y)).length = i.size := by rw [tOfs_length]; exact hn
    have hvl : yv.cells.toList.length = i.size := by simpa using hyl
    have hown : L.own r (.arr ver e sz rows) = some g' := by simp [Loc.own, hv, capBlock, Nat.pos_iff_ne_zero.1 hp]
    refine ⟨_, store_run hi hh hyl (by omega) (RelDs.one hys), ?_⟩
    refine RelO.put hO (fr_setRow _ hO.fr (hm g' (by simp [hv, capBlock, Nat.pos_iff_ne_zero.1 hp]))) (by simp) (fun _ _ => ⟨rfl, rfl⟩) rfl (fun b _ hb => setRow_other w _ b _ (fun x => hb _ hc (by rw [hown, x])))
      (fun b hb => .inl ⟨_, hc, hb⟩) (fun o' ho' hk => by rw [hc] at ho'; cases ho'; exact absurd rfl hk) (fun ver' e' sz' rows' h => ?_) (fun adv => ?_)
    · rw [hc] at h
      cases h
      exact ⟨ver, e, sz, _, rfl, Nat.le_refl _, fun _ => ⟨rfl, rfl, by simp⟩⟩
    · refine ⟨hsz, fun x hx => ?_, hm, .inr ⟨g', cap, _, by simpa using hv, hp, setRow_heap w _ cur _ e _ hh, by simpa using hle, hcap, ?_, ?_⟩⟩
      · rcases List.mem_or_eq_of_mem_set hx with hx | rfl
        · exact hrows x hx
        · rw [length_splice]
          · exact hrows _ (by rw [rowAt, List.getD, List.getElem?_eq_getElem hj]; simp)
          · have : (rowAt rows j).length = sz := hrows _ (by rw [rowAt, List.getD, List.getElem?_eq_getElem hj]; simp)
            omega
      · have := length_splice (l := cur.toList) (new := yv.cells.toList) (off := j.toNat * sz + off) (by simp only [Array.length_toList] at hvl ⊢; omega)
        simpa using this.trans (by simpa using hcur)
      · rw [show rowAt rows j = rows.getD j.toNat [] from rfl, flatten_set rows j.toNat off _ hrows hj (by omega)]
        simp only [List.length_set]
        have e1 : (splice cur.toList (j.toNat * sz + off) yv.cells.toList).toArray.toList.take (rows.length * sz) = splice (cur.toList.take (rows.length * sz)) (j.toNat * sz + off) yv.cells.toList := by
          rw [List.toList_toArray]
          exact take_splice (by omega) (by simp; omega)
        rw [e1]
        exact RelL.splice _ (RelL.keep adv.keeps.toKeepsC adv.sub _ _ hrel) (RelL.keep adv.keeps.toKeepsC adv.sub _ _ (relL_of_pure hce hys))
def Loc.setBlk (L : Loc) (r b : Nat) : Loc := ⟨fun x => if x = r then b else L.blk x, L.sl, L.yl⟩
def Loc.setSl (L : Loc) (r : Nat) (v : Value) : Loc := ⟨L.blk, fun x => if x = r then v else L.sl x, L.yl⟩

theorem fr_below {base : Nat} {M : Nat → Prop} {w0 w' : World} (h : Fr base M w0 w) (hb : BelD w.heap.size w w') : Fr base M w0 w' := by
  have hle : base ≤ w.heap.size := Nat.le_trans h.size0 h.size
  exact h.trans ⟨hb.os, hb.tape, hb.output, hle, hb.size, fun k hk _ => hb.block k (by omega), hb.drawn⟩

theorem below_alloc (o : Obj) : BelD w.heap.size w (w.alloc o) := ⟨(Below.refl _ _).alloc (Nat.le_refl _) _, Nat.le_refl _⟩

/-- A new box. -/
theorem new_box {base : Nat} {M : Nat → Prop} {w0 : World} (hO : RelO base W M w0 objs w L) {r : Nat} (hr : objs r = none) {cs : List DV} {c : Array Value} (e : TypeId) (hc : RelDs w W objs L cs c.toList) :
    RelO base W M w0 (putO objs (some (r, .box cs))) (w.alloc (.cells c e)) (L.setBlk r w.heap.size) ∧
      Adv W objs L w (putO objs (some (r, .box cs))) (L.setBlk r w.heap.size) (w.alloc (.cells c e)) := by
  have hb := below_alloc (w := w) (.cells c e)
  refine RelO.put hO (fr_below hO.fr hb) hb.size (fun x hx => ⟨by simp [Loc.setBlk, hx], rfl⟩) rfl (fun b hlt _ => hb.block b hlt) (fun b h => .inr ?_)
    (fun o' h _ => by rw [hr] at h; cases h) (fun _ _ _ _ h => by rw [hr] at h; cases h) (fun adv => ?_)
  · simp only [Loc.own, Loc.setBlk, if_true, Option.some.injEq] at h
    omega
  · refine ⟨c, e, ?_, RelDs.adv adv _ _ hc, .inl ?_⟩
    · simp only [Loc.setBlk, if_true]; exact heap_alloc_new w _
    · simp only [Loc.setBlk, if_true]; exact Nat.le_trans hO.fr.size0 hO.fr.size

theorem asl_rows {base : Nat} {M : Nat → Prop} {w0 : World} (hO : RelO base W M w0 objs w L) {r ver e sz lo n : Nat} {rows : List (List T)} {xv : Value} (hc : objs r = some (.arr ver e sz rows))
    (hx : lo + n ≤ rows.length ∧ ∃ p cap p2, L.sl r = .slice p rows.length cap ∧ xv = .slice p2 n (cap - lo) ∧ (lo < cap → p2 = p.map (·.add (lo * sz)))) :
    (n = 0 ∧ ∃ (a : Option Addr) (c : Nat), xv = .slice a 0 c) ∨ ∃ g c, capBlock (L.sl r) = some g ∧ xv = .slice (some ⟨g, lo * sz, none⟩) n c ∧ n ≤ c ∧ RelRows w (WW W objs L) sz g (lo * sz) ((rows.drop lo).take n) := by
  obtain ⟨hln, p, cap, p2, hsl, rfl, hp2⟩ := hx
  by_cases hn : n = 0
  · subst hn; exact .inl ⟨rfl, p2, _, rfl⟩
  · have hob := hO.ob r _ hc
    obtain ⟨_, hrows, hm, hal⟩ := hob
    rcases hal with ⟨rfl, a, ha⟩ | ⟨g, cap', cur, h1, h2, h3, h4, h5, h6, h7⟩
    · simp at hln; omega
    · have hcb : capBlock (L.sl r) = some g := by rw [h1]; simp [capBlock, Nat.pos_iff_ne_zero.1 h2]
      have hrr := ObOk.rows (hO.ob r _ hc) hcb
      rw [hsl] at h1
      simp only [Value.slice.injEq] at h1
      obtain ⟨rfl, _, rfl⟩ := h1
      have := hp2 (by omega)
      subst this
      refine .inr ⟨g, cap - lo, hcb, by simp [add_off], by omega, RelRows.of_rows _ _ fun j x hj => ?_⟩
      rw [List.getElem?_take] at hj
      split at hj
      · rw [List.getElem?_drop] at hj
        have := RelRows.row hrr hj
        rw [Nat.zero_add, Nat.add_mul] at this
        exact this
      · cases hj

/-- The source of an append. -/
structure SrcOk (w : World) (W' : Nat → Prop) (ys : List (List T)) (sz : Nat) (v : Value) : Prop where
  it : (ys = [] ∧ ∃ (a : Option Addr) (c : Nat), v = .slice a 0 c) ∨ ∃ b o c, v = .slice (some ⟨b, o, none⟩) ys.length c ∧ RelRows w W' sz b o ys

theorem src_sound {base : Nat} {M : Nat → Prop} {w0 : World} (hO : RelO base W M w0 objs w L) {y : DV} {yv : Value} {ys : List (List T)} {sz : Nat} (hy : RelD w W objs L y yv) (hs : srcRows objs y = some ys) (hl : ∀ r ∈ ys, r.length = sz) :
    SrcOk w (WW W objs L) ys sz yv := by
  cases y with
  | v t =>
    cases t with
    | sl rows =>
      simp only [srcRows, Option.some.injEq] at hs
      subst hs
      simp only [RelD, RelT] at hy
      rcases hy with hy | ⟨b, o, cap, sz', rfl, _, _, hc, hr⟩
      · exact ⟨.inl hy⟩
      · refine ⟨.inr ⟨b, o, cap, rfl, ?_⟩⟩
        match rows, hr with
        | [], _ => simp [RelRows]
        | r :: rs, hr =>
          have h1 := (RelRows.row hr (i := 0) (r := r) rfl).1
          have h2 := hl r (by simp)
          have : sz' = sz := by omega
          exact this ▸ hr
    | raw v =>
      unfold srcRows at hs
      split at hs <;> simp_all
      simp only [RelD, RelT] at hy
      exact ⟨.inl ⟨rfl, _, _, hy⟩⟩
    | _ => simp [srcRows] at hs
  | nil0 =>
    simp only [srcRows, Option.some.injEq] at hs
    subst hs
    simp only [RelD] at hy
    obtain ⟨a, rfl⟩ := hy
    exact ⟨.inl ⟨rfl, a, 0, rfl⟩⟩
  | aref r ver =>
    simp only [srcRows] at hs
    simp only [RelD] at hy
    obtain ⟨_, ver', e, sz', rows, ho, _, hx⟩ := hy
    rw [ho] at hs
    simp only at hs
    split at hs
    · rename_i hv
      simp only [Option.some.injEq] at hs
      subst hs
      have hob := hO.ob r _ ho
      obtain ⟨hsz, hrows, hm, hal⟩ := hob
      rw [hx hv]
      rcases hal with ⟨rfl, a, ha⟩ | ⟨g', cap, cur, hv', hp, hh, hle, hcap, hcur, hrel⟩
      · exact ⟨.inl ⟨rfl, a, 0, ha⟩⟩
      · have hrr := ObOk.rows (hO.ob r _ ho) (g := g') (by simp [hv', capBlock, Nat.pos_iff_ne_zero.1 hp])
        refine ⟨.inr ⟨g', 0, cap, hv', ?_⟩⟩
        match rows, hrr, hl, hrows with
        | [], _, _, _ => simp [RelRows]
        | r :: rs, hr, hl, hrows =>
          have h1 := hrows r (by simp)
          have h2 := hl r (by simp)
          have : sz' = sz := by omega
          exact this ▸ hr
    · cases hs
  | asl r ver lo n =>
    simp only [srcRows] at hs
    simp only [RelD] at hy
    obtain ⟨_, ver', e, sz', rows, ho, _, hx⟩ := hy
    rw [ho] at hs
    simp only at hs
    split at hs
    · rename_i hv
      subst hv
      simp only [Option.some.injEq] at hs
      subst hs
      have hln := (hx rfl).1
      have htl : ((rows.drop lo).take n).length = n := by rw [List.length_take, List.length_drop]; omega
      rcases asl_rows hO ho (hx rfl) with ⟨rfl, a, c, rfl⟩ | ⟨g, c, _, rfl, _, hr⟩
      · exact ⟨.inl ⟨by simp, a, c, rfl⟩⟩
      · refine ⟨.inr ⟨g, lo * sz', c, by rw [htl], ?_⟩⟩
        have hrows := (hO.ob r _ ho).2.1
        match hq : (rows.drop lo).take n, hr, hl with
        | [], _, _ => simp [RelRows]
        | q :: qs, hr, hl =>
          have h1 := hrows q (List.mem_of_mem_drop (List.mem_of_mem_take (by rw [hq]; simp)))
          have h2 := hl q (by simp)
          have : sz' = sz := by omega
          exact this ▸ hr
    · cases hs
  | _ => simp [srcRows] at hs

theorem run_append_zero {P : Program} (w : World) (t ty e : TypeId) (i : TypeInfo) (ht : P.underlying t = some (.slice e)) (hi : P.info? e = some i) (a b : Option Addr) (n cap c : Nat) (hn : n ≤ cap) :
    (Builtin.append_ #[t, t] ty #[.slice a n cap, .slice b 0 c]).run P w = .ok (.slice a n cap) w := by
  have hf : (Builtin.firstCells i.size 0 (.slice b 0 c)).run P w = .ok #[] w := by
    cases b <;> simp [Builtin.firstCells, loadCells, loadCellsFrom]
  cases a <;> simp [Builtin.append_, run_underlying ht, sizeOf, typeInfo, hi, Builtin.lenOf, hn, hf, storeCells]

theorem grown_owns {e sz : Nat} {z : Value} (hzs : z.cells.size = sz) {n m old : Nat} {xs vs : List Value} (hx : xs.length = n * sz) (hv : vs.length = m * sz) (h63 : n + m ≤ maxLen) :
    (w.drew.alloc (.cells (xs.toArray ++ vs.toArray ++ Builtin.zeroCells z.cells (grownCap w (n + m) old e - (n + m))) e)).ownsRow 0 e sz (.slice (some ⟨w.heap.size, 0, none⟩) (n + m) (grownCap w (n + m) old e)) (n + m) (xs ++ vs) ∧
      ∀ row, w.grownBy (w.drew.alloc (.cells (xs.toArray ++ vs.toArray ++ Builtin.zeroCells z.cells (grownCap w (n + m) old e - (n + m))) e)) row := by
  have hge := grownCap_ge w (n + m) old e
  have hcm : grownCap w (n + m) old e ≤ maxLen := grownCap_le_maxLen w (n + m) old e h63
  have hlen : (xs ++ vs).length = (n + m) * sz := by rw [List.length_append, hx, hv, Nat.add_mul]
  refine ⟨⟨hlen, .inr ⟨w.heap.size, _, _, rfl, Nat.zero_le _, heap_alloc_new w.drew _, hge, hcm, ?_, ?_⟩⟩, fun row => ⟨rfl, rfl, rfl, by simp, fun k hk _ => heap_alloc_old w.drew _ k hk⟩⟩
  · simp only [Array.size_append, List.size_toArray, size_zeroCells, hzs, hx, hv, ← Nat.add_mul]
    congr 1
    omega
  · simp only [Array.toList_append, List.append_assoc]
    rw [← List.append_assoc, ← hlen]
    exact List.take_left

theorem putO_self {r : Nat} {o : Ob} (h : objs r = some o) : putO objs (some (r, o)) = objs := by
  funext x
  simp only [putO]
  split
  · rename_i e; rw [e, h]
  · rfl
theorem flatten_splice {sz : Nat} {rows new : List (List T)} {lo : Nat} (hr : ∀ r ∈ rows, r.length = sz) (hn : ∀ r ∈ new, r.length = sz) (h : lo + new.length ≤ rows.length) : (splice rows lo new).flatten = splice rows.flatten (lo * sz) new.flatten := by
  have key : ∀ (l : List (List T)), (∀ r ∈ l, r.length = sz) → l.flatten.length = l.length * sz := by
    intro l
    induction l with
    | nil => simp
    | cons r rs ih => intro h; simp [ih (fun x hx => h x (by simp [hx])), h r (by simp), Nat.add_mul]; omega
  have tk : ∀ (k : Nat), k ≤ rows.length → (rows.take k).flatten = rows.flatten.take (k * sz) ∧ (rows.drop k).flatten = rows.flatten.drop (k * sz) := by
    intro k hk
    have h8 : rows.flatten = (rows.take k).flatten ++ (rows.drop k).flatten := by rw [← List.flatten_append, List.take_append_drop]
    have h9 : (rows.take k).flatten.length = k * sz := by rw [key _ (fun r h => hr r (List.mem_of_mem_take h)), List.length_take]; congr 1; omega
    rw [h8, List.take_left' h9, List.drop_left' h9]
    exact ⟨rfl, rfl⟩
  unfold splice
  rw [List.flatten_append, List.flatten_append, (tk lo (by omega)).1, (tk _ h).2, key new hn, Nat.add_mul]
theorem copy_core {P : Program} {base : Nat} {M : Nat → Prop} {w0 : World} (hO : RelO base W M w0 objs w L) {t t' ty e0 : TypeId} {i : TypeInfo} (ht : P.underlying t = some (.slice e0)) (hi : P.info? e0 = some i)
    {r ver e lo n : Nat} {rows : List (List T)} (hc : objs r = some (.arr ver e i.size rows)) (hln : lo + n ≤ rows.length) {xv yv : Value}
    (hdst : (n = 0 ∧ ∃ (a : Option Addr) (c : Nat), xv = .slice a 0 c) ∨ ∃ g c, capBlock (L.sl r) = some g ∧ xv = .slice (some ⟨g, lo * i.size, none⟩) n c) {ys : List (List T)} (hs : SrcOk w (WW W objs L) ys i.size yv) (hyl : ∀ r ∈ ys, r.length = i.size) :
    ∃ w', (Builtin.copy_ #[t, t'] ty #[xv, yv]).run P w = .ok (goInt (min ys.length n : Nat)) w' ∧
      RelO base W M w0 (putO objs (some (r, .arr ver e i.size (splice rows lo (ys.take n))))) w' L ∧ Adv W objs L w (putO objs (some (r, .arr ver e i.size (splice rows lo (ys.take n))))) L w' := by
  have stay : ys.take n = [] → RelO base W M w0 (putO objs (some (r, .arr ver e i.size (splice rows lo (ys.take n))))) w L ∧ Adv W objs L w (putO objs (some (r, .arr ver e i.size (splice rows lo (ys.take n))))) L w := by
    intro h0
    have e1 : splice rows lo (ys.take n) = rows := by rw [h0]; simp [splice]
    rw [e1, putO_self hc]
    exact ⟨hO, Adv.refl_of_keeps (Keeps.refl _ _)⟩
  have hlen : ∃ (p : Option Addr) (c : Nat), yv = .slice p ys.length c := by
    rcases hs.it with ⟨rfl, a, c, rfl⟩ | ⟨b, o, c, rfl, _⟩
    · exact ⟨a, c, rfl⟩
    · exact ⟨_, c, rfl⟩
  have hf0 : ∀ (v : Value) (p : Option Addr) (m c : Nat), v = .slice p m c → (Builtin.firstCells i.size 0 v).run P w = .ok #[] w := by
    rintro v p m c rfl
    cases p <;> simp [Builtin.firstCells, loadCells, loadCellsFrom]
  obtain ⟨yp, yc, hyv⟩ := hlen
  rcases hdst with ⟨rfl, a, c, rfl⟩ | ⟨g, c, hg, rfl⟩
  · refine ⟨w, ?_, stay (by simp)⟩
    have := hf0 yv yp _ yc hyv
    subst hyv
    cases a <;> simp [Builtin.copy_, run_underlying ht, Builtin.lenOf, run_sizeOf hi, this, storeCells]
  · by_cases hm : min ys.length n = 0
    · refine ⟨w, ?_, stay ?_⟩
      · have := hf0 yv yp _ yc hyv
        subst hyv
        have hm' : Nat.min ys.length n = 0 := hm
        simp [Builtin.copy_, run_underlying ht, Builtin.lenOf, run_sizeOf hi, hm, hm', this, storeCells]
      · by_cases h : ys.length = 0
        · rw [List.eq_nil_of_length_eq_zero h]; simp
        · rw [show n = 0 by omega]; simp
    · rcases hs.it with ⟨rfl, _⟩ | ⟨b, o, c', hyv2, hr⟩
      · simp at hm
      · have hob := hO.ob r _ hc
        obtain ⟨hsz, hrows, hmm, hal⟩ := hob
        rcases hal with ⟨rfl, _⟩ | ⟨g', cap, cur, h1, h2, h3, h4, h5, h6, h7⟩
        · simp at hln; omega
        · have hcb : capBlock (L.sl r) = some g' := by rw [h1]; simp [capBlock, Nat.pos_iff_ne_zero.1 h2]
          rw [hcb] at hg
          cases hg
          obtain ⟨vs, hvl, hvr, hvc⟩ := RelRows.flatten hr
          have hm2 : min ys.length n * i.size ≤ vs.length := by rw [hvl]; exact Nat.mul_le_mul_right _ (Nat.min_le_left _ _)
          have htk : (ys.take n).length = min ys.length n := by rw [List.length_take, Nat.min_comm]
          have htl : (vs.take (min ys.length n * i.size)).length = min ys.length n * i.size := by rw [List.length_take]; omega
          have hload : (Builtin.firstCells i.size (min ys.length n) yv).run P w = .ok (vs.take (min ys.length n * i.size)).toArray w := by
            rw [hyv2]
            simp only [Builtin.firstCells]
            have := run_loadRow (P := P) (w := w) (b := b) (o := o) (vs := vs.take (min ys.length n * i.size)) (fun j v hj => hvc j v (by
              rw [List.getElem?_take] at hj
              split at hj
              · exact hj
              · cases hj))
            rw [htl] at this
            exact this
          have hfl : (ys.take n).flatten = ys.flatten.take (min ys.length n * i.size) := by
            have h8 : ys.flatten = (ys.take n).flatten ++ (ys.drop n).flatten := by rw [← List.flatten_append, List.take_append_drop]
            rw [h8, List.take_left']
            have key : ∀ (l : List (List T)), (∀ r ∈ l, r.length = i.size) → l.flatten.length = l.length * i.size := by
              intro l
              induction l with
              | nil => simp
              | cons r rs ih => intro h; simp [ih (fun x hx => h x (by simp [hx])), h r (by simp), Nat.add_mul]; omega
            rw [key _ (fun r h => hyl r (List.mem_of_mem_take h)), htk]
          have hfit : lo * i.size + min ys.length n * i.size ≤ rows.length * i.size := by
            rw [← Nat.add_mul]; exact Nat.mul_le_mul_right _ (by omega)
          have hcapr : rows.length * i.size ≤ cap * i.size := Nat.mul_le_mul_right _ h4
          have hrl : RelL w (WW W objs L) (ys.take n).flatten (vs.take (min ys.length n * i.size)) := by rw [hfl]; exact RelL.take _ hvr
          have hst := run_storeCells_at P g (lo * i.size) e (vs.take (min ys.length n * i.size)) 0 cur w h3 (by rw [htl, h6]; omega) (RelL.one hrl)
          have hown : L.own r (.arr ver e i.size rows) = some g := hcb
          refine ⟨w.setRow g (splice cur.toList (lo * i.size) (vs.take (min ys.length n * i.size))).toArray, ?_, ?_⟩
          · have hm' : Nat.min ys.length n = min ys.length n := rfl
            rw [hyv2] at hload ⊢
            simp only [Builtin.copy_, run_underlying ht, Builtin.lenOf, run_sizeOf hi, Sem.run_bind, Sem.run_pure, Result.andThen_ok, hm', hload]
            simp only [Nat.add_zero] at hst
            simp [run_underlying ht, run_sizeOf hi, hload, hst, splice]
          · refine RelO.put hO (fr_setRow _ hO.fr (hmm g hcb)) (by simp) (fun _ _ => ⟨rfl, rfl⟩) rfl (fun b _ hb => setRow_other w _ b _ (fun x => hb _ hc (by rw [hown, x])))
              (fun b hb => .inl ⟨_, hc, hb⟩) (fun o' ho' hk => by rw [hc] at ho'; cases ho'; exact absurd rfl hk) (fun ver' e' sz' rows' h => ?_) (fun adv => ?_)
            · rw [hc] at h
              cases h
              exact ⟨ver, e, i.size, _, rfl, Nat.le_refl _, fun _ => ⟨rfl, rfl, length_splice (by rw [htk]; omega)⟩⟩
            · have hl2 : (splice rows lo (ys.take n)).length = rows.length := length_splice (by rw [htk]; omega)
              refine ⟨hsz, fun x hx => ?_, hmm, .inr ⟨g, cap, _, by rw [hl2]; exact h1, h2, setRow_heap w _ cur _ e _ h3, by rw [hl2]; exact h4, h5, ?_, ?_⟩⟩
              · simp only [splice, List.mem_append] at hx
                rcases hx with (hx | hx) | hx
                · exact hrows x (List.mem_of_mem_take hx)
                · exact hyl x (List.mem_of_mem_take hx)
                · exact hrows x (List.mem_of_mem_drop hx)
              · have := length_splice (l := cur.toList) (new := vs.take (min ys.length n * i.size)) (off := lo * i.size) (by rw [htl]; simp only [Array.length_toList, h6]; omega)
                simpa using this.trans (by simpa using h6)
              · rw [hl2, flatten_splice hrows (fun x hx => hyl x (List.mem_of_mem_take hx)) (by rw [htk]; omega)]
                rw [List.toList_toArray, take_splice (by rw [htl]; omega) (by simp only [Array.length_toList, h6]; omega)]
                exact RelL.splice _ (RelL.keep adv.keeps.toKeepsC adv.sub _ _ h7) (RelL.keep adv.keeps.toKeepsC adv.sub _ _ hrl)

/-- What an append leaves: a slice over a row of its own. -/
theorem run_append_any {P : Program} {t ty e : TypeId} {i : TypeInfo} {z : Value} {sz : Nat} (ht : P.underlying t = some (.slice e)) (hi : P.info? e = some i) (hz : i.zero = some z) (hsize : i.size = sz) (hzs : z.cells.size = sz)
    {W' : Nat → Prop} {v : Value} {n : Nat} {xs : List Value} (hown : (n = 0 ∧ xs = [] ∧ ∃ a : Option Addr, v = .slice a 0 0) ∨ ∃ g cap cur, v = .slice (some ⟨g, 0, none⟩) n cap ∧ 0 < cap ∧ w.heap[g]? = some (.cells cur e (0, 0)) ∧ n ≤ cap ∧ cap ≤ maxLen ∧ cur.size = cap * sz ∧ cur.toList.take (n * sz) = xs)
    {ys : List (List T)} {yv : Value} (hs : SrcOk w W' ys sz yv) (hyw : ∀ b o, RelRows w W' sz b o ys → ∃ vs, vs.length = ys.length * sz ∧ RelL w W' ys.flatten vs ∧ ∀ j v, vs[j]? = some v → w.cell? ⟨b, o + j, none⟩ = some v) (hroom : roomOk i.bytes (n + ys.length)) :
    ∃ v' w' vs, (Builtin.append_ #[t, t] ty #[v, yv]).run P w = .ok v' w' ∧ RelL w W' ys.flatten vs ∧ vs.length = ys.length * sz ∧
      ((n + ys.length = 0 ∧ ∃ a : Option Addr, v' = .slice a 0 0) ∨ ∃ g cap cur, v' = .slice (some ⟨g, 0, none⟩) (n + ys.length) cap ∧ 0 < cap ∧ w'.heap[g]? = some (.cells cur e (0, 0)) ∧ n + ys.length ≤ cap ∧ cap ≤ maxLen ∧ cur.size = cap * sz ∧
          cur.toList.take ((n + ys.length) * sz) = xs ++ vs) ∧
      w.grownBy w' (capBlock v) ∧ (∀ b, capBlock v' = some b → capBlock v = some b ∨ w.heap.size ≤ b) ∧ w.drawn ≤ w'.drawn := by
  have h63 : n + ys.length ≤ maxLen := by have := hroom.2; simp only [maxLen]; omega
  have h63i : ((n + ys.length : Nat) : Int) ≤ 9223372036854775807 := by have := hroom.2; omega
  have gself : w.grownBy w (capBlock v) := ⟨rfl, rfl, rfl, Nat.le_refl _, fun _ _ _ => rfl⟩
  rcases hs.it with ⟨rfl, b, c, rfl⟩ | ⟨b, o, c, rfl, hr⟩
  · rcases hown with ⟨rfl, rfl, a, rfl⟩ | ⟨g, cap, cur, rfl, hp, hg, h1, h2, h3, h4⟩
    · exact ⟨_, w, [], run_append_zero w t ty e i ht hi a b 0 0 c (Nat.le_refl _), by simp [RelL], by simp, .inl ⟨rfl, a, rfl⟩, gself, fun b hb => .inl hb, Nat.le_refl _⟩
    · exact ⟨_, w, [], run_append_zero w t ty e i ht hi _ b n cap c h1, by simp [RelL], by simp, .inr ⟨g, cap, cur, rfl, hp, hg, h1, h2, h3, by simpa using h4⟩, gself, fun b hb => .inl hb, Nat.le_refl _⟩
  · obtain ⟨vs, hvl, hvr, hvc⟩ := hyw b o hr
    have hvc' : ∀ j v, vs[j]? = some v → w.cell? ((⟨b, o, none⟩ : Addr).add j) = some v := fun j v h => by rw [add_off]; exact hvc j v h
    by_cases hy0 : ys.length = 0
    · have : ys = [] := List.eq_nil_of_length_eq_zero hy0
      subst this
      rcases hown with ⟨rfl, rfl, a, rfl⟩ | ⟨g, cap, cur, rfl, hp, hg, h1, h2, h3, h4⟩
      · exact ⟨_, w, [], run_append_zero w t ty e i ht hi a _ 0 0 c (Nat.le_refl _), by simp [RelL], by simp, .inl ⟨rfl, a, rfl⟩, gself, fun b hb => .inl hb, Nat.le_refl _⟩
      · exact ⟨_, w, [], run_append_zero w t ty e i ht hi _ _ n cap c h1, by simp [RelL], by simp, .inr ⟨g, cap, cur, rfl, hp, hg, h1, h2, h3, by simpa using h4⟩, gself, fun b hb => .inl hb, Nat.le_refl _⟩
    · have grow : ∀ (a : Addr) (old : Nat), old < n + ys.length → xs.length = n * sz → (∀ j u, xs[j]? = some u → w.cell? (a.add j) = some u) →
          ∃ v' w', (Builtin.append_ #[t, t] ty #[.slice (some a) n old, .slice (some ⟨b, o, none⟩) ys.length c]).run P w = .ok v' w' ∧
            (∃ g cap cur, v' = .slice (some ⟨g, 0, none⟩) (n + ys.length) cap ∧ 0 < cap ∧ w'.heap[g]? = some (.cells cur e (0, 0)) ∧ n + ys.length ≤ cap ∧ cap ≤ maxLen ∧ cur.size = cap * sz ∧ cur.toList.take ((n + ys.length) * sz) = xs ++ vs) ∧
            (∀ row, w.grownBy w' row) ∧ (∀ b, capBlock v' = some b → w.heap.size ≤ b) ∧ w.drawn ≤ w'.drawn := by
        intro a old ho hxl hxc
        have hrun := run_append_grow (P := P) w t ty e i z ht hi hz a n old xs (by rw [hsize]; exact hxl) hxc ⟨b, o, none⟩ ys.length c vs (by rw [hsize]; exact hvl) hvc' ho h63i (growslice_fits ho hroom.1)
        have hgr := grown_owns (w := w) (e := e) (old := old) hzs hxl hvl h63
        obtain ⟨hlen, hor⟩ := hgr.1
        rcases hor with ⟨hn, _⟩ | ⟨g, cap, cur, hv, _, hg, h1, h2, h3, h4⟩
        · cases hn
        · refine ⟨_, _, hrun, ⟨g, cap, cur, hv, by omega, hg, h1, h2, h3, h4⟩, hgr.2, fun b hb => ?_, Nat.le_succ _⟩
          have hcap : grownCap w (n + ys.length) old e ≠ 0 := by have := grownCap_ge w (n + ys.length) old e; omega
          simp only [capBlock, if_neg hcap, Option.some.injEq] at hb
          omega
      rcases hown with ⟨rfl, rfl, a, rfl⟩ | ⟨g, cap, cur, rfl, hp, hg, h1, h2, h3, h4⟩
      · cases a with
        | none =>
          have hrun := run_append_nil (P := P) w t ty e i z ht hi hz ⟨b, o, none⟩ ys.length c vs (by rw [hsize]; exact hvl) hvc' (by omega) (by omega) (by have := growslice_fits (old := 0) (need := ys.length) (by omega) (by simpa using hroom.1); have h2 := hroom.1; simp only [Nat.zero_add] at h2; omega)
          have hgr := grown_owns (w := w) (e := e) (old := 0) (n := 0) (xs := []) hzs (by simp) hvl (by simpa using h63)
          simp only [Nat.zero_add, List.nil_append, Array.empty_append] at hgr ⊢
          obtain ⟨hlen, hor⟩ := hgr.1
          rcases hor with ⟨hn, _⟩ | ⟨g, cap, cur, hv, _, hg, h1, h2, h3, h4⟩
          · cases hn
          · refine ⟨_, _, vs, hrun, hvr, hvl, .inr ⟨g, cap, cur, hv, by omega, hg, h1, h2, h3, h4⟩, hgr.2 _, fun b hb => .inr ?_, Nat.le_succ _⟩
            have hcap : grownCap w ys.length 0 e ≠ 0 := by have := grownCap_ge w ys.length 0 e; omega
            simp only [capBlock, if_neg hcap, Option.some.injEq] at hb
            omega
        | some a =>
          obtain ⟨v', w', hrun, hr2, hgr, hbb, hdr⟩ := grow a 0 (by omega) (by simp) (by simp)
          exact ⟨v', w', vs, hrun, hvr, hvl, .inr hr2, hgr _, fun b hb => .inr (hbb b hb), hdr⟩
      · have hxl : xs.length = n * sz := by
          rw [← h4, List.length_take, Array.length_toList, h3]; exact Nat.min_eq_left (Nat.mul_le_mul_right sz h1)
        have hcapne : cap ≠ 0 := Nat.pos_iff_ne_zero.1 hp
        by_cases hroomc : n + ys.length ≤ cap
        · have hfit : n * i.size + vs.length ≤ cur.size := by rw [hvl, h3, hsize, ← Nat.add_mul]; exact Nat.mul_le_mul_right _ hroomc
          have hrun := run_append_room (P := P) w t ty e i ht hi g n cap cur hg ⟨b, o, none⟩ ys.length c vs (by rw [hsize]; exact hvl) hvc' (RelL.one hvr) hroomc hfit
          refine ⟨_, _, vs, hrun, hvr, hvl, .inr ⟨g, cap, _, rfl, hp, setRow_heap w g cur _ e _ hg, hroomc, h2, ?_, ?_⟩, ⟨rfl, rfl, rfl, by simp, fun k _ hk => setRow_other w g k _ (fun e => hk (by simp [capBlock, hcapne, e]))⟩, fun b hb => .inl ?_, by simp⟩
          · simp only [List.size_toArray, List.length_append, List.length_take, List.length_drop, Array.length_toList]
            rw [hsize] at hfit ⊢
            omega
          · have hlen : (xs ++ vs).length = (n + ys.length) * sz := by rw [List.length_append, hxl, hvl, Nat.add_mul]
            rw [hsize, h4, ← hlen]
            exact List.take_left
          · simpa [capBlock, hcapne] using hb
        · obtain ⟨v', w', hrun, hr2, hgr, hbb, hdr⟩ := grow ⟨g, 0, none⟩ cap (by omega) hxl (fun j u hu => by
            rw [add_off, Nat.zero_add, cell_of_row w g j cur e (0, 0) hg]
            rw [← h4, List.getElem?_take] at hu
            split at hu
            · simpa using hu
            · cases hu)
          exact ⟨v', w', vs, hrun, hvr, hvl, .inr hr2, hgr _, fun b hb => .inr (hbb b hb), hdr⟩
theorem flatten_length {sz : Nat} : ∀ {rows : List (List T)}, (∀ r ∈ rows, r.length = sz) → rows.flatten.length = rows.length * sz
  | [], _ => by simp
  | r :: rs, h => by
    have := flatten_length (rows := rs) (sz := sz) fun x hx => h x (by simp [hx])
    simp [this, h r (by simp), Nat.add_mul]; omega

/-- An append to an array, or to a slice without room: the array afterwards. -/
theorem append_put {base : Nat} {M : Nat → Prop} {w0 : World} (hO : RelO base W M w0 objs w L) {r : Nat} {ver ver' e sz : Nat} {rows ys : List (List T)} (hsz : 0 < sz)
    {v v' : Value} {w' : World} {xs vs : List Value} (hrl : ∀ x ∈ rows ++ ys, x.length = sz)
    {rows0 : List (List T)} (hold : (objs r = none ∧ rows = [] ∧ capBlock v = none) ∨ (objs r = some (.arr ver e sz rows0) ∧ capBlock (L.sl r) = capBlock v ∧ ver < ver'))
    (hxs : RelL w (WW W objs L) rows.flatten xs) (hvs : RelL w (WW W objs L) ys.flatten vs)
    (hnew : (rows.length + ys.length = 0 ∧ ∃ a : Option Addr, v' = .slice a 0 0) ∨ ∃ g cap cur, v' = .slice (some ⟨g, 0, none⟩) (rows.length + ys.length) cap ∧ 0 < cap ∧ w'.heap[g]? = some (.cells cur e (0, 0)) ∧ rows.length + ys.length ≤ cap ∧ cap ≤ maxLen ∧ cur.size = cap * sz ∧
          cur.toList.take ((rows.length + ys.length) * sz) = xs ++ vs)
    (hgr : w.grownBy w' (capBlock v)) (hbb : ∀ b, capBlock v' = some b → capBlock v = some b ∨ w.heap.size ≤ b) (hdr : w.drawn ≤ w'.drawn) :
    RelO base W M w0 (putO objs (some (r, .arr ver' e sz (rows ++ ys)))) w' (L.setSl r v') ∧ Adv W objs L w (putO objs (some (r, .arr ver' e sz (rows ++ ys)))) (L.setSl r v') w' := by
  have hreach : ∀ g, capBlock v = some g → base ≤ g ∨ M g := fun g hg => by
    rcases hold with ⟨_, _, h⟩ | ⟨ho, hv, _⟩
    · rw [hg] at h; cases h
    · exact (hO.ob r _ ho).reach (by simpa [Loc.own, hv] using hg)
  have hle : base ≤ w.heap.size := Nat.le_trans hO.fr.size0 hO.fr.size
  have hfr : Fr base M w0 w' := hO.fr.trans ⟨hgr.os, hgr.tape, hgr.output, hle, hgr.size, fun k hk hm => hgr.block k (by omega) fun x => by
    rcases hreach k x.symm with h | h
    · omega
    · exact hm h, hdr⟩
  refine RelO.put hO hfr hgr.size (fun x hx => ⟨rfl, by simp [Loc.setSl, hx]⟩) rfl (fun b hlt hb => hgr.block b hlt fun x => ?_) (fun b hb => ?_) (fun cs hc hk => ?_) (fun ver2 e2 sz2 rows2 hc => ?_) (fun adv => ?_)
  · rcases hold with ⟨_, _, h⟩ | ⟨ho, hv, _⟩
    · rw [h] at x; cases x
    · exact hb _ ho (by simp [Loc.own, hv, ← x])
  · simp only [Loc.own, Loc.setSl, if_true] at hb
    rcases hbb b hb with h | h
    · rcases hold with ⟨_, _, h2⟩ | ⟨ho, hv, _⟩
      · rw [h] at h2; cases h2
      · exact .inl ⟨_, ho, by simp [Loc.own, hv, h]⟩
    · exact .inr h
  · rcases hold with ⟨h, _⟩ | ⟨h, _⟩ <;> rw [hc] at h <;> cases h
    exact absurd rfl (by assumption)
  · rcases hold with ⟨h, _⟩ | ⟨h, _, hlt⟩
    · rw [hc] at h; cases h
    · rw [hc] at h
      cases h
      exact ⟨ver', e, sz, _, rfl, by omega, fun x => by omega⟩
  · refine ⟨hsz, hrl, fun g hg => ?_, ?_⟩
    · simp only [Loc.setSl, if_true] at hg
      rcases hbb g hg with h | h
      · exact hreach g h
      · exact .inl (Nat.le_trans hle h)
    · simp only [Loc.setSl, if_true, List.length_append]
      rcases hnew with ⟨h0, ha⟩ | ⟨g, cap, cur, hv, hp, hg, h1, h2, h3, h4⟩
      · refine .inl ⟨?_, ha⟩
        have h1 : rows = [] := List.eq_nil_of_length_eq_zero (by omega)
        have h2 : ys = [] := List.eq_nil_of_length_eq_zero (by omega)
        simp [h1, h2]
      · refine .inr ⟨g, cap, cur, hv, hp, hg, h1, h2, h3, ?_⟩
        rw [h4, List.flatten_append]
        exact RelL.append (RelL.keep adv.keeps.toKeepsC adv.sub _ _ hxs) (RelL.keep adv.keeps.toKeepsC adv.sub _ _ hvs)

theorem append_sound {P : Program} {base : Nat} {M : Nat → Prop} {w0 : World} (hO : RelO base W M w0 objs w L) {t ty e : TypeId} {i : TypeInfo} {z : Value} (ht : P.underlying t = some (.slice e)) (hi : P.info? e = some i) (hz : i.zero = some z) (hzs : z.cells.size = i.size) (hsz : 0 < i.size)
    {name : Nat} (hname : objs name = none) {x y : DV} {xv yv : Value} (hx : RelD w W objs L x xv) (hy : RelD w W objs L y yv) (hok : (appendSem e i.size i.bytes name objs x y).ok) :
    ∃ v w' L', (Builtin.append_ #[t, t] ty #[xv, yv]).run P w = .ok v w' ∧ RelO base W M w0 (putO objs (appendSem e i.size i.bytes name objs x y).put) w' L' ∧
      Adv W objs L w (putO objs (appendSem e i.size i.bytes name objs x y).put) L' w' ∧ RelD w' W (putO objs (appendSem e i.size i.bytes name objs x y).put) L' (appendSem e i.size i.bytes name objs x y).val v := by
  unfold appendSem at hok ⊢
  cases hs : srcRows objs y with
  | none => simp [hs, bad] at hok
  | some ys =>
    simp only [hs] at hok ⊢
    have hyw : ∀ b o, RelRows w (WW W objs L) i.size b o ys → ∃ vs, vs.length = ys.length * i.size ∧ RelL w (WW W objs L) ys.flatten vs ∧ ∀ j v, vs[j]? = some v → w.cell? ⟨b, o + j, none⟩ = some v := fun b o h => RelRows.flatten h
    cases x with
    | nil0 =>
      simp only at hok ⊢
      have hx' := hx
      simp only [RelD] at hx'
      obtain ⟨a, rfl⟩ := hx'
      obtain ⟨v', w', vs, hrun, hvr, hvl, hnew, hgr, hbb, hdr⟩ := run_append_any (n := 0) (xs := []) ht hi hz rfl hzs (.inl ⟨rfl, rfl, a, rfl⟩) (ty := ty) (src_sound hO hy hs hok.1) hyw (by simpa using hok.2)
      have hcb : capBlock (.slice a 0 0) = none := by cases a <;> simp [capBlock]
      have := append_put hO (r := name) (ver := 0) (ver' := 0) (rows0 := []) (rows := []) (ys := ys) hsz (by simpa using hok.1) (.inl ⟨hname, rfl, hcb⟩) (xs := []) (by simp [RelL]) hvr (by simpa using hnew) hgr hbb hdr
      refine ⟨v', w', _, hrun, by simpa using this.1, by simpa using this.2, ?_⟩
      simp only [RelD]
      refine ⟨?_, 0, e, i.size, ys, by simp [putO], Nat.le_refl _, fun _ => by simp [Loc.setSl]⟩
      rcases hnew with ⟨_, a, rfl⟩ | ⟨g, cap, cur, rfl, _⟩ <;> exact ⟨_, _, _, rfl⟩
    | aref r ver =>
      cases ho : objs r with
      | none => simp [ho, bad] at hok
      | some o =>
        cases o with
        | box cs => simp [ho, bad] at hok
        | arr ver' e' sz' rows =>
          simp only [ho] at hok ⊢
          obtain ⟨rfl, rfl, rfl, hl, hroom⟩ := hok
          have hx' := hx
          simp only [RelD] at hx'
          obtain ⟨_, ver2, e2, sz2, rows2, ho2, _, hv2⟩ := hx'
          rw [ho] at ho2
          cases ho2
          have hv := hv2 rfl
          have hob := hO.ob r _ ho
          obtain ⟨_, hrows, hm, hal⟩ := hob
          have hown : ∃ xs, RelL w (WW W objs L) rows.flatten xs ∧ ((rows.length = 0 ∧ xs = [] ∧ ∃ a : Option Addr, xv = .slice a 0 0) ∨ ∃ g cap cur, xv = .slice (some ⟨g, 0, none⟩) rows.length cap ∧ 0 < cap ∧ w.heap[g]? = some (.cells cur e' (0, 0)) ∧ rows.length ≤ cap ∧ cap ≤ maxLen ∧ cur.size = cap * i.size ∧ cur.toList.take (rows.length * i.size) = xs) := by
            rcases hal with ⟨rfl, a, ha⟩ | ⟨g, cap, cur, h1, h2, h3, h4, h5, h6, h7⟩
            · exact ⟨[], by simp [RelL], .inl ⟨rfl, rfl, a, by rw [hv, ha]⟩⟩
            · exact ⟨_, h7, .inr ⟨g, cap, cur, by rw [hv, h1], h2, h3, h4, h5, h6, rfl⟩⟩
          obtain ⟨xs, hxr, hown⟩ := hown
          obtain ⟨v', w', vs, hrun, hvr, hvl, hnew, hgr, hbb, hdr⟩ := run_append_any ht hi hz rfl hzs hown (ty := ty) (src_sound hO hy hs hl) hyw hroom
          have := append_put hO (r := r) (ver := ver) (ver' := ver + 1) (rows := rows) (ys := ys) hsz (fun x hx => (List.mem_append.1 hx).elim (hrows x) (hl x)) (.inr ⟨ho, by rw [hv], by omega⟩) hxr hvr hnew hgr hbb hdr
          refine ⟨v', w', _, hrun, this.1, this.2, ?_⟩
          simp only [RelD]
          refine ⟨?_, ver + 1, e', i.size, rows ++ ys, by simp [putO], Nat.le_refl _, fun _ => by simp [Loc.setSl]⟩
          rcases hnew with ⟨_, a, rfl⟩ | ⟨g, cap, cur, rfl, _⟩ <;> exact ⟨_, _, _, rfl⟩
        | _ => simp [ho, bad] at hok
    | asl r ver lo n =>
      cases lo with
      | succ lo => simp [bad] at hok
      | zero =>
      cases ho : objs r with
      | none => simp [ho, bad] at hok
      | some o =>
        cases o with
        | arr ver' e' sz' rows =>
          simp only [ho] at hok ⊢
          obtain ⟨rfl, rfl, rfl, hl, hroom⟩ := hok
          have hx' := hx
          simp only [RelD] at hx'
          obtain ⟨_, ver2, e2, sz2, rows2, ho2, _, hv2⟩ := hx'
          rw [ho] at ho2
          cases ho2
          obtain ⟨hln, p, cap0, p2, hsl, rfl, hp2⟩ := hv2 rfl
          have hob := hO.ob r _ ho
          obtain ⟨_, hrows, hm, hal⟩ := hob
          have htl : (rows.take n).length = n := by rw [List.length_take]; omega
          have hcb : capBlock (L.sl r) = capBlock (.slice p2 n (cap0 - 0)) := by
            rw [hsl]
            simp only [Nat.sub_zero]
            by_cases hc0 : cap0 = 0
            · subst hc0; cases p <;> cases p2 <;> simp [capBlock]
            · have := hp2 (by omega)
              subst this
              cases p with
              | none => simp [capBlock]
              | some a =>
                obtain ⟨b, o, ix⟩ := a
                cases ix <;> simp [capBlock, hc0, Addr.add]
          have hown : ∃ xs, RelL w (WW W objs L) (rows.take n).flatten xs ∧ ((n = 0 ∧ xs = [] ∧ ∃ a : Option Addr, Value.slice p2 n (cap0 - 0) = .slice a 0 0) ∨ ∃ g cap cur, Value.slice p2 n (cap0 - 0) = .slice (some ⟨g, 0, none⟩) n cap ∧ 0 < cap ∧ w.heap[g]? = some (.cells cur e' (0, 0)) ∧ n ≤ cap ∧ cap ≤ maxLen ∧ cur.size = cap * i.size ∧ cur.toList.take (n * i.size) = xs) := by
            rcases hal with ⟨rfl, a, ha⟩ | ⟨g, cap, cur, h1, h2, h3, h4, h5, h6, h7⟩
            · rw [hsl] at ha
              simp only [Value.slice.injEq] at ha
              obtain ⟨_, _, rfl⟩ := ha
              have : n = 0 := by simp at hln; omega
              subst this
              exact ⟨[], by simp [RelL], .inl ⟨rfl, rfl, p2, rfl⟩⟩
            · rw [hsl] at h1
              simp only [Value.slice.injEq] at h1
              obtain ⟨rfl, _, rfl⟩ := h1
              have := hp2 h2
              subst this
              refine ⟨_, ?_, .inr ⟨g, cap0, cur, by simp [add_off], h2, h3, by omega, h5, h6, rfl⟩⟩
              have e1 : (rows.take n).flatten = rows.flatten.take (n * i.size) := by
                have h8 : rows.flatten = (rows.take n).flatten ++ (rows.drop n).flatten := by rw [← List.flatten_append, List.take_append_drop]
                rw [h8, List.take_left' (by rw [flatten_length (sz := i.size) (fun r hr => hrows r (List.mem_of_mem_take hr)), htl])]
              have e2 : cur.toList.take (n * i.size) = (cur.toList.take (rows.length * i.size)).take (n * i.size) := by
                rw [List.take_take]; congr 1
                have := Nat.mul_le_mul_right i.size (show n ≤ rows.length by omega)
                omega
              rw [e1, e2]
              exact RelL.take _ h7
          obtain ⟨xs, hxr, hown⟩ := hown
          obtain ⟨v', w', vs, hrun, hvr, hvl, hnew, hgr, hbb, hdr⟩ := run_append_any ht hi hz rfl hzs hown (ty := ty) (src_sound hO hy hs hl) hyw hroom
          have := append_put hO (r := r) (ver := ver) (ver' := ver + 1) (rows := rows.take n) (ys := ys) hsz (fun x hx => (List.mem_append.1 hx).elim (fun h => hrows x (List.mem_of_mem_take h)) (hl x)) (.inr ⟨ho, hcb, by omega⟩) hxr hvr (by rw [htl]; exact hnew) hgr hbb hdr
          refine ⟨v', w', _, hrun, this.1, this.2, ?_⟩
          simp only [RelD]
          refine ⟨?_, ver + 1, e', i.size, rows.take n ++ ys, by simp [putO], Nat.le_refl _, fun _ => by simp [Loc.setSl]⟩
          rcases hnew with ⟨_, a, rfl⟩ | ⟨g, cap, cur, rfl, _⟩ <;> exact ⟨_, _, _, rfl⟩
        | _ => simp [ho, bad] at hok
    | _ => simp [bad] at hok

theorem copy_sound {P : Program} {base : Nat} {M : Nat → Prop} {w0 : World} (hO : RelO base W M w0 objs w L) {t t' ty e0 : TypeId} {i : TypeInfo} (ht : P.underlying t = some (.slice e0)) (hi : P.info? e0 = some i)
    {x y : DV} {xv yv : Value} (hx : RelD w W objs L x xv) (hy : RelD w W objs L y yv) (hok : (copySem i.size objs x y).ok) :
    ∃ v w', (Builtin.copy_ #[t, t'] ty #[xv, yv]).run P w = .ok v w' ∧ RelO base W M w0 (putO objs (copySem i.size objs x y).put) w' L ∧
      Adv W objs L w (putO objs (copySem i.size objs x y).put) L w' ∧ RelD w' W (putO objs (copySem i.size objs x y).put) L (copySem i.size objs x y).val v := by
  unfold copySem at hok ⊢
  cases hs : srcRows objs y with
  | none => simp [hs, bad] at hok
  | some ys =>
    simp only [hs] at hok ⊢
    cases x with
    | aref r ver =>
      cases ho : objs r with
      | none => simp [ho, bad] at hok
      | some o =>
        cases o with
        | arr ver' e sz' rows =>
          simp only [ho] at hok ⊢
          obtain ⟨rfl, rfl, hl⟩ := hok
          simp only [RelD] at hx
          obtain ⟨_, ver2, e2, sz2, rows2, ho2, _, hv2⟩ := hx
          rw [ho] at ho2
          cases ho2
          have hv := hv2 rfl
          subst hv
          have hd : (rows.length = 0 ∧ ∃ (a : Option Addr) (c : Nat), L.sl r = .slice a 0 c) ∨ ∃ g c, capBlock (L.sl r) = some g ∧ L.sl r = .slice (some ⟨g, 0 * i.size, none⟩) rows.length c := by
            obtain ⟨_, _, _, hal⟩ := hO.ob r _ ho
            rcases hal with ⟨rfl, a, ha⟩ | ⟨g, cap, cur, h1, h2, _⟩
            · exact .inl ⟨rfl, a, 0, ha⟩
            · exact .inr ⟨g, cap, by rw [h1]; simp [capBlock, Nat.pos_iff_ne_zero.1 h2], by rw [h1, Nat.zero_mul]⟩
          obtain ⟨w', h1, h2, h3⟩ := copy_core hO ht hi (t' := t') (ty := ty) ho (lo := 0) (n := rows.length) (by omega) hd (src_sound hO hy hs hl) hl
          exact ⟨_, w', h1, h2, h3, by simp [RelD, RelT, goInt]⟩
        | _ => simp [ho, bad] at hok
    | asl r ver lo n =>
      cases ho : objs r with
      | none => simp [ho, bad] at hok
      | some o =>
        cases o with
        | arr ver' e sz' rows =>
          simp only [ho] at hok ⊢
          obtain ⟨rfl, rfl, hl⟩ := hok
          simp only [RelD] at hx
          obtain ⟨_, ver2, e2, sz2, rows2, ho2, _, hv2⟩ := hx
          rw [ho] at ho2
          cases ho2
          have hv := hv2 rfl
          have hd : (n = 0 ∧ ∃ (a : Option Addr) (c : Nat), xv = .slice a 0 c) ∨ ∃ g c, capBlock (L.sl r) = some g ∧ xv = .slice (some ⟨g, lo * i.size, none⟩) n c := by
            rcases asl_rows hO ho hv with h | ⟨g, c, h1, h2, _⟩
            · exact .inl h
            · exact .inr ⟨g, c, h1, h2⟩
          obtain ⟨w', h1, h2, h3⟩ := copy_core hO ht hi (t' := t') (ty := ty) ho hv.1 hd (src_sound hO hy hs hl) hl
          exact ⟨_, w', h1, h2, h3, by simp [RelD, RelT, goInt]⟩
        | _ => simp [ho, bad] at hok
    | _ => simp [bad] at hok

theorem getElem?_flatten_replicate {α : Type} (l : List α) : ∀ (n j : Nat), j < n * l.length → (List.replicate n l).flatten[j]? = l[j % l.length]?
  | 0, j, h => by simp at h
  | n + 1, j, h => by
    simp only [List.replicate_succ, List.flatten_cons]
    by_cases hj : j < l.length
    · rw [List.getElem?_append_left hj, Nat.mod_eq_of_lt hj]
    · rw [List.getElem?_append_right (by omega), getElem?_flatten_replicate l n (j - l.length) (by rw [Nat.add_mul] at h; omega)]
      rw [Nat.mod_eq_sub_mod (a := j) (by omega)]
theorem madeCells_eq (z : Array Value) (n : Nat) : (madeCells z (n * z.size)).toList = (List.replicate n z.toList).flatten := by
  apply List.ext_getElem?
  intro j
  by_cases hj : j < n * z.size
  · have hz : 0 < z.size := by
      rcases Nat.eq_zero_or_pos z.size with h | h
      · rw [h] at hj; simp at hj
      · exact h
    rw [getElem?_flatten_replicate z.toList n j (by simpa using hj)]
    have hm := Nat.mod_lt j hz
    simp [madeCells, hj, hm]
  · rw [List.getElem?_eq_none (by simp [size_madeCells]; omega), List.getElem?_eq_none (by simp; omega)]
theorem relL_replicate {zero : List T} {zs : List Value} (h : RelL w W zero zs) : ∀ n, RelL w W (List.replicate n zero).flatten (List.replicate n zs).flatten
  | 0 => by simp [RelL]
  | n + 1 => by simpa [List.replicate_succ] using RelL.append h (relL_replicate h n)

/-- A new array. -/
theorem new_arr {base : Nat} {M : Nat → Prop} {w0 : World} (hO : RelO base W M w0 objs w L) {r : Nat} (hr : objs r = none) {e sz : Nat} {rows : List (List T)} (hsz : 0 < sz) (hrl : ∀ x ∈ rows, x.length = sz) {c : Array Value} (hcs : c.size = rows.length * sz)
    (hc : RelL w (WW W objs L) rows.flatten c.toList) (hmax : rows.length ≤ maxLen) :
    RelO base W M w0 (putO objs (some (r, .arr 0 e sz rows))) (w.alloc (.cells c e)) (L.setSl r (.slice (some ⟨w.heap.size, 0, none⟩) rows.length rows.length)) ∧
      Adv W objs L w (putO objs (some (r, .arr 0 e sz rows))) (L.setSl r (.slice (some ⟨w.heap.size, 0, none⟩) rows.length rows.length)) (w.alloc (.cells c e)) := by
  have hb := below_alloc (w := w) (.cells c e)
  refine RelO.put hO (fr_below hO.fr hb) hb.size (fun x hx => ⟨rfl, by simp [Loc.setSl, hx]⟩) rfl (fun b hlt _ => hb.block b hlt) (fun b h => .inr ?_)
    (fun o' h _ => by rw [hr] at h; cases h) (fun _ _ _ _ h => by rw [hr] at h; cases h) (fun adv => ?_)
  · simp only [Loc.own, Loc.setSl, if_true, capBlock] at h
    split at h
    · cases h
    · simp only [Option.some.injEq] at h
      omega
  · refine ⟨hsz, hrl, fun g hg => ?_, ?_⟩
    · simp only [Loc.setSl, if_true, capBlock] at hg
      split at hg
      · cases hg
      · simp only [Option.some.injEq] at hg
        subst hg
        exact .inl (Nat.le_trans hO.fr.size0 hO.fr.size)
    · simp only [Loc.setSl, if_true]
      by_cases h0 : rows.length = 0
      · refine .inl ⟨List.eq_nil_of_length_eq_zero h0, some ⟨w.heap.size, 0, none⟩, by rw [h0]⟩
      · refine .inr ⟨w.heap.size, rows.length, c, rfl, by omega, heap_alloc_new w _, Nat.le_refl _, hmax, hcs, ?_⟩
        rw [List.take_of_length_le (by simp [hcs])]
        exact RelL.keep adv.keeps.toKeepsC adv.sub _ _ hc

theorem make_sound {P : Program} {base : Nat} {M : Nat → Prop} {w0 : World} (hO : RelO base W M w0 objs w L) {t e : TypeId} {i : TypeInfo} {z : Value} (ht : P.underlying t = some (.slice e)) (hi : P.info? e = some i) (hz : i.zero = some z) (hsz : 0 < i.size)
    {zero : List T} (hzero : z.cells.toList.mapM constT = some zero) {name : Nat} (hname : objs name = none) {x : DV} {xv : Value} (hx : RelD w W objs L x xv) (hok : (makeSem e i.size i.bytes zero name x).ok) :
    ∃ v w' L', (Instr.makeSlice t xv xv).run P w = .ok v w' ∧ RelO base W M w0 (putO objs (makeSem e i.size i.bytes zero name x).put) w' L' ∧
      Adv W objs L w (putO objs (makeSem e i.size i.bytes zero name x).put) L' w' ∧ RelD w' W (putO objs (makeSem e i.size i.bytes zero name x).put) L' (makeSem e i.size i.bytes zero name x).val v := by
  cases x with
  | v t' =>
    cases t' with
    | int k n =>
      simp only [RelD, RelT] at hx
      subst hx
      simp only [makeSem] at hok ⊢
      obtain ⟨h0, hzl, hb, hm⟩ := hok
      have hzz := mapM_constT_rel (w := w) (W := WW W objs L) hzero
      have hzs : z.cells.size = i.size := by have := RelL.length hzz; simpa [hzl] using this
      have hbi : (i.bytes : Int) * n ≤ 281474976710656 := by
        have e : (i.bytes : Int) * n = ((n.toNat * i.bytes : Nat) : Int) := by
          rw [Int.natCast_mul, Int.toNat_of_nonneg h0, Int.mul_comm]
        rw [e]; omega
      have hrun := run_make (P := P) w t e i z ht hi hz k k n n h0 (Int.le_refl _) hbi (by omega)
      have hc : (madeCells z.cells (n.toNat * i.size)).toList = (List.replicate n.toNat z.cells.toList).flatten := by rw [← hzs]; exact madeCells_eq _ _
      have := new_arr hO (e := e) hname (rows := List.replicate n.toNat zero) hsz (fun x hx => by rw [List.eq_of_mem_replicate hx]; exact hzl) (c := madeCells z.cells (n.toNat * i.size)) (by simp [size_madeCells]) (by rw [hc]; exact relL_replicate hzz _) (by simp only [List.length_replicate, maxLen]; omega)
      simp only [List.length_replicate] at this
      refine ⟨_, _, _, hrun, this.1, this.2, ?_⟩
      simp only [RelD]
      exact ⟨⟨_, _, _, rfl⟩, 0, e, i.size, List.replicate n.toNat zero, by simp [putO], Nat.le_refl _, fun _ => by simp [Loc.setSl]⟩
    | _ => simp [makeSem, bad] at hok
  | _ => simp [makeSem, bad] at hok
theorem relDs_zero {ts : List T} : ∀ {zs : List Value}, zs.mapM constT = some ts → RelDs w W objs L (ts.map zeroC) zs := by
  induction ts with
  | nil =>
    intro zs h
    cases zs with
    | nil => simp [RelDs]
    | cons z zs => simp [List.mapM_cons, Option.bind_eq_some_iff] at h
  | cons t ts ih =>
    intro zs h
    cases zs with
    | nil => simp at h
    | cons z zs =>
      simp only [List.mapM_cons, Option.pure_def, Option.bind_eq_bind, Option.bind_eq_some_iff, Option.some.injEq, List.cons.injEq] at h
      obtain ⟨t', ht, ts', hts, rfl, rfl⟩ := h
      simp only [List.map_cons, RelDs]
      have hr := constT_rel (w := w) (W := WW W objs L) ht
      refine ⟨z, zs, rfl, hr.2.1, ?_, ih hts⟩
      unfold zeroC
      split
      · unfold constT at ht
        split at ht <;> first | (cases ht; done) | skip
        all_goals first
          | (simp only [RelD]; exact ⟨_, rfl⟩)
          | (cases ht)
      · simp only [RelD]; exact hr.1
theorem relDs_replicate {zero : List DV} {zs : List Value} (h : RelDs w W objs L zero zs) : ∀ n, RelDs w W objs L (List.replicate n zero).flatten (List.replicate n zs).flatten
  | 0 => by simp [RelDs]
  | n + 1 => by simpa [List.replicate_succ] using RelDs.append h (relDs_replicate h n)
theorem makeB_sound {P : Program} {base : Nat} {M : Nat → Prop} {w0 : World} (hO : RelO base W M w0 objs w L) {t e : TypeId} {i : TypeInfo} {z : Value} (ht : P.underlying t = some (.slice e)) (hi : P.info? e = some i) (hz : i.zero = some z)
    {zero : List T} (hzero : z.cells.toList.mapM constT = some zero) {name : Nat} (hname : objs name = none) {x : DV} {xv : Value} (hx : RelD w W objs L x xv) (hok : (makeBSem i.size i.bytes zero name x).ok) :
    ∃ v w' L', (Instr.makeSlice t xv xv).run P w = .ok v w' ∧ RelO base W M w0 (putO objs (makeBSem i.size i.bytes zero name x).put) w' L' ∧
      Adv W objs L w (putO objs (makeBSem i.size i.bytes zero name x).put) L' w' ∧ RelD w' W (putO objs (makeBSem i.size i.bytes zero name x).put) L' (makeBSem i.size i.bytes zero name x).val v := by
  cases x with
  | v t' =>
    cases t' with
    | int k n =>
      simp only [RelD, RelT] at hx
      subst hx
      simp only [makeBSem] at hok ⊢
      obtain ⟨h0, hzl, hb, hm⟩ := hok
      have hzz := relDs_zero (w := w) (W := W) (objs := objs) (L := L) hzero
      have hzs : z.cells.size = i.size := by have := RelDs.length hzz; simpa [hzl] using this
      have hbi : (i.bytes : Int) * n ≤ 281474976710656 := by
        have e : (i.bytes : Int) * n = ((n.toNat * i.bytes : Nat) : Int) := by
          rw [Int.natCast_mul, Int.toNat_of_nonneg h0, Int.mul_comm]
        rw [e]; omega
      have hrun := run_make (P := P) w t e i z ht hi hz k k n n h0 (Int.le_refl _) hbi (by omega)
      have hc : (madeCells z.cells (n.toNat * i.size)).toList = (List.replicate n.toNat z.cells.toList).flatten := by rw [← hzs]; exact madeCells_eq _ _
      have := new_box hO hname (c := madeCells z.cells (n.toNat * i.size)) e (cs := (List.replicate n.toNat (zero.map zeroC)).flatten) (by rw [hc]; exact relDs_replicate hzz _)
      refine ⟨_, _, _, hrun, this.1, this.2, ?_⟩
      simp only [RelD]
      exact ⟨⟨(List.replicate n.toNat (zero.map zeroC)).flatten, by simp [putO]⟩, by simp [Loc.setBlk]⟩
    | _ => simp [makeBSem, bad] at hok
  | _ => simp [makeBSem, bad] at hok
end
end Go.DM
/- The D-machine, part F: equality of values that are compared cell by cell. Conditions: none. -/
namespace Go.DM
open Go.RowKit
set_option linter.unusedSimpArgs false
set_option linter.unusedVariables false
set_option linter.unusedSectionVars false
variable [Laid]

def shFieldsOf (P : Program) (rec : TypeId → Option (List Sh)) (off : Nat) : List Field → Option (List Sh)
  | [] => some []
  | f :: fs =>
    match rec f.type, P.info? f.type with
    | some s, some i => if f.name ≠ "_" ∧ f.offset = off ∧ s.length = i.size then (shFieldsOf P rec (off + s.length) fs).map (s ++ ·) else none
    | _, _ => none
def shOf (P : Program) : Nat → TypeId → Option (List Sh)
  | 0, _ => none
  | d + 1, t =>
    match P.underlying t with
    | some .bool => some [.bool]
    | some (.int k) => some [.int k]
    | some .string => some [.str]
    | some (.struct fs) => if P.stoodInHeld t then none else shFieldsOf P (shOf P d) 0 fs.toList
    | some (.array n e) =>
      match shOf P d e, P.info? e with
      | some s, some i => if s.length = i.size ∧ 0 < i.size then some ((List.replicate n s).flatten) else none
      | _, _ => none
    | _ => none

def fit : Sh → Value → Bool
  | .bool, .bool _ => true
  | .int k, .int k' _ => k == k'
  | .str, .string _ => true
  | _, _ => false
def fits : List Sh → List Value → Prop
  | [], vs => vs = []
  | s :: ss, vs => ∃ v vs', vs = v :: vs' ∧ fit s v = true ∧ fits ss vs'
def veq : Value → Value → Bool
  | .bool a, .bool b => a == b
  | .int _ a, .int _ b => a == b
  | .string a, .string b => a.toList == b.toList
  | _, _ => false
def veqs : List Value → List Value → Bool
  | [], [] => true
  | a :: as, b :: bs => veq a b && veqs as bs
  | _, _ => false

theorem fits.length : ∀ {ss : List Sh} {vs : List Value}, fits ss vs → vs.length = ss.length
  | [], _, h => by simp only [fits] at h; simp [h]
  | _ :: ss, _, h => by
    simp only [fits] at h
    obtain ⟨v, vs', rfl, _, h⟩ := h
    simp [fits.length h]
theorem fits.split : ∀ {s1 s2 : List Sh} {vs : List Value}, fits (s1 ++ s2) vs → fits s1 (vs.take s1.length) ∧ fits s2 (vs.drop s1.length)
  | [], s2, vs, h => by simpa [fits] using h
  | s :: s1, s2, vs, h => by
    simp only [List.cons_append, fits] at h
    obtain ⟨v, vs', rfl, h1, h⟩ := h
    have := fits.split h
    simp only [List.length_cons, List.take_succ_cons, List.drop_succ_cons, fits]
    exact ⟨⟨v, _, rfl, h1, this.1⟩, this.2⟩
theorem veqs_append : ∀ {a b c d : List Value}, a.length = c.length → veqs (a ++ b) (c ++ d) = (veqs a c && veqs b d)
  | [], b, [], d, _ => by simp [veqs]
  | x :: a, b, [], d, h => by simp at h
  | [], b, y :: c, d, h => by simp at h
  | x :: a, b, y :: c, d, h => by
    simp only [List.cons_append, veqs]
    rw [veqs_append (by simpa using h), Bool.and_assoc]

/-- A value out of its cells. -/
def mkV (d : TypeDesc) (vs : List Value) : Value := if aggDesc d then .agg vs.toArray else vs.getD 0 Go.undef

section
variable {P : Program}
theorem run_part (w : World) {t : TypeId} {d : TypeDesc} {i : TypeInfo} (hd : P.underlying t = some d) (hi : P.info? t = some i) {xs : List Value} {off : Nat} (h1 : aggDesc d = true ∨ i.size = 1) (hl : off + i.size ≤ xs.length) :
    (part t xs.toArray off).run P w = .ok (mkV d ((xs.drop off).take i.size)) w := by
  have h1' : (isAgg t).run P w = .ok (aggDesc d) w := by rw [run_isAgg hd]; cases d <;> rfl
  simp only [part, Sem.run_bind, h1', Result.andThen_ok]
  by_cases ha : aggDesc d = true
  · simp only [ha, if_true, Sem.run_bind, run_sizeOf hi, Result.andThen_ok, Sem.run_pure, mkV]
    congr 3
    simp only [List.extract_toArray, List.extract_eq_take_drop]
    congr 2
    omega
  · have h2 := h1.resolve_left ha
    have hlt : off < xs.length := by omega
    simp only [ha, if_false, mkV, h2]
    simp [hlt]

theorem sh_desc {d : Nat} {t : TypeId} {shs : List Sh} (h : shOf P (d + 1) t = some shs) : ∃ desc, P.underlying t = some desc ∧ (aggDesc desc = true ∨ shs.length = 1) := by
  simp only [shOf] at h
  split at h
  · rename_i hu; exact ⟨_, hu, .inr (by simp at h; simp [← h])⟩
  · rename_i hu; exact ⟨_, hu, .inr (by simp at h; simp [← h])⟩
  · rename_i hu; exact ⟨_, hu, .inr (by simp at h; simp [← h])⟩
  · rename_i hu; exact ⟨_, hu, .inl rfl⟩
  · rename_i hu; exact ⟨_, hu, .inl rfl⟩
  · cases h

theorem eq_arr {d : Nat} {e : TypeId} {de : TypeDesc} {s : List Sh} {i : TypeInfo} (hd : P.underlying e = some de) (hi : P.info? e = some i) (h1 : aggDesc de = true ∨ i.size = 1) (hs : s.length = i.size) (hpos : 0 < i.size)
    (ih : ∀ (xs ys : List Value) (w : World), fits s xs → fits s ys → (Op.equalIn d e (mkV de xs) (mkV de ys)).run P w = .ok (veqs xs ys) w) (xs ys : List Value) :
    ∀ (n k : Nat) (w : World), fits ((List.replicate n s).flatten) (xs.drop (k * i.size)) → fits ((List.replicate n s).flatten) (ys.drop (k * i.size)) →
      (forIn (List.range' k n) (none, ()) (fun j (_ : Option Bool × Unit) => do
          let a ← part e xs.toArray (j * i.size)
          let b ← part e ys.toArray (j * i.size)
          let r ← Op.equalIn d e a b
          if (!r) = true then pure (ForInStep.done (some false, ())) else pure (ForInStep.yield (none, ()))) : Sem (Option Bool × Unit)).run P w =
        .ok (if veqs (xs.drop (k * i.size)) (ys.drop (k * i.size)) then (none, ()) else (some false, ())) w
  | 0, k, w, hx, hy => by
    simp only [List.replicate_zero, List.flatten_nil, fits] at hx hy
    simp [hx, hy, veqs]
  | n + 1, k, w, hx, hy => by
    simp only [List.replicate_succ, List.flatten_cons] at hx hy
    have hxl := fits.length hx
    have hyl := fits.length hy
    simp only [List.length_append, List.length_drop] at hxl hyl
    obtain ⟨hx1, hx2⟩ := fits.split hx
    obtain ⟨hy1, hy2⟩ := fits.split hy
    have e2 : k * i.size + s.length = (k + 1) * i.size := by rw [Nat.add_mul, hs]; omega
    rw [List.drop_drop, e2] at hx2 hy2
    have hsp : 0 < i.size := hpos
    have p1 := fun w => run_part (P := P) w hd hi (xs := xs) (off := k * i.size) h1 (by omega)
    have p2 := fun w => run_part (P := P) w hd hi (xs := ys) (off := k * i.size) h1 (by omega)
    rw [hs] at hx1 hy1
    have hr := ih _ _ w hx1 hy1
    have hsplit : veqs (xs.drop (k * i.size)) (ys.drop (k * i.size)) = (veqs ((xs.drop (k * i.size)).take i.size) ((ys.drop (k * i.size)).take i.size) && veqs (xs.drop ((k + 1) * i.size)) (ys.drop ((k + 1) * i.size))) := by
      have a1 : xs.drop (k * i.size) = (xs.drop (k * i.size)).take i.size ++ xs.drop ((k + 1) * i.size) := by
        rw [← e2, hs, ← List.drop_drop, List.take_append_drop]
      have a2 : ys.drop (k * i.size) = (ys.drop (k * i.size)).take i.size ++ ys.drop ((k + 1) * i.size) := by
        rw [← e2, hs, ← List.drop_drop, List.take_append_drop]
      rw [a1, a2, veqs_append (by simp; omega)]
      rw [← a1, ← a2]
    simp only [List.range'_succ, List.forIn_cons, Sem.run_bind, p1, p2, Result.andThen_ok, hr]
    rw [hsplit]
    cases hb : veqs ((xs.drop (k * i.size)).take i.size) ((ys.drop (k * i.size)).take i.size)
    · simp
    · have := eq_arr hd hi h1 hs hpos ih xs ys n (k + 1) w hx2 hy2
      simp only [Bool.not_true, Bool.false_eq_true, if_false, Sem.run_pure, Result.andThen_ok, Bool.true_and]
      exact this

theorem eq_fields {d : Nat} (ih : ∀ (t : TypeId) (shs : List Sh) (desc : TypeDesc), shOf P d t = some shs → P.underlying t = some desc → ∀ (xs ys : List Value) (w : World), fits shs xs → fits shs ys → (Op.equalIn d t (mkV desc xs) (mkV desc ys)).run P w = .ok (veqs xs ys) w)
    (hdesc : ∀ (t : TypeId) (shs : List Sh), shOf P d t = some shs → ∃ desc, P.underlying t = some desc ∧ (aggDesc desc = true ∨ shs.length = 1)) (xs ys : List Value) :
    ∀ (fs : List Field) (off : Nat) (shs : List Sh) (w : World), shFieldsOf P (shOf P d) off fs = some shs → fits shs (xs.drop off) → fits shs (ys.drop off) → off ≤ xs.length → off ≤ ys.length →
      (Op.eqFields d xs.toArray ys.toArray fs).run P w = .ok (veqs (xs.drop off) (ys.drop off)) w
  | [], off, shs, w, h, hx, hy, _, _ => by
    simp only [shFieldsOf, Option.some.injEq] at h
    subst h
    simp only [fits] at hx hy
    simp [Op.eqFields, hx, hy, veqs]
  | f :: fs, off, shs, w, h, hx, hy, hox, hoy => by
    simp only [shFieldsOf] at h
    split at h
    · rename_i s i hs hi
      split at h
      · rename_i hc
        obtain ⟨hn, rfl, hsz⟩ := hc
        simp only [Option.map_eq_some_iff] at h
        obtain ⟨rest, hrest, rfl⟩ := h
        obtain ⟨desc, hd, h1⟩ := hdesc _ _ hs
        have hxl := fits.length hx
        have hyl := fits.length hy
        simp only [List.length_append, List.length_drop] at hxl hyl
        obtain ⟨hx1, hx2⟩ := fits.split hx
        obtain ⟨hy1, hy2⟩ := fits.split hy
        rw [List.drop_drop] at hx2 hy2
        rw [hsz] at h1
        have p1 := fun w => run_part (P := P) w hd hi (xs := xs) (off := f.offset) h1 (by omega)
        have p2 := fun w => run_part (P := P) w hd hi (xs := ys) (off := f.offset) h1 (by omega)
        have hr := ih _ _ _ hs hd _ _ w hx1 hy1
        rw [hsz] at hr
        have hsplit : veqs (xs.drop f.offset) (ys.drop f.offset) = (veqs ((xs.drop f.offset).take i.size) ((ys.drop f.offset).take i.size) && veqs (xs.drop (f.offset + s.length)) (ys.drop (f.offset + s.length))) := by
          have a1 : xs.drop f.offset = (xs.drop f.offset).take i.size ++ xs.drop (f.offset + s.length) := by rw [hsz, ← List.drop_drop, List.take_append_drop]
          have a2 : ys.drop f.offset = (ys.drop f.offset).take i.size ++ ys.drop (f.offset + s.length) := by rw [hsz, ← List.drop_drop, List.take_append_drop]
          rw [a1, a2, veqs_append (by simp; omega)]
          rw [← a1, ← a2]
        simp only [Op.eqFields, hn, ne_eq, not_false_eq_true, if_true, Sem.run_bind, p1, p2, Result.andThen_ok, hr]
        rw [hsplit]
        cases hb : veqs ((xs.drop f.offset).take i.size) ((ys.drop f.offset).take i.size)
        · simp
        · simp only [Bool.not_true, Bool.false_eq_true, if_false, Bool.true_and]
          exact eq_fields ih hdesc xs ys fs _ rest w hrest hx2 hy2 (by omega) (by omega)
      · cases h
    · cases h

theorem equalIn_sh : ∀ (d : Nat) (t : TypeId) (shs : List Sh) (desc : TypeDesc), shOf P d t = some shs → P.underlying t = some desc → ∀ (xs ys : List Value) (w : World), fits shs xs → fits shs ys →
    (Op.equalIn d t (mkV desc xs) (mkV desc ys)).run P w = .ok (veqs xs ys) w
  | 0, t, shs, desc, h, _, _, _, _, _, _ => by simp [shOf] at h
  | d + 1, t, shs, desc, h, hu, xs, ys, w, hx, hy => by
    simp only [shOf, hu] at h
    have one : ∀ {s : Sh} {zs : List Value}, fits [s] zs → ∃ v, zs = [v] ∧ fit s v = true := by
      intro s zs hz
      simp only [fits] at hz
      obtain ⟨v, vs', rfl, h1, rfl⟩ := hz
      exact ⟨v, rfl, h1⟩
    cases desc
    case bool =>
      simp only [Option.some.injEq] at h
      subst h
      obtain ⟨x, rfl, gx⟩ := one hx
      obtain ⟨y, rfl, gy⟩ := one hy
      cases x <;> first | exact absurd gx Bool.false_ne_true | skip
      cases y <;> first | exact absurd gy Bool.false_ne_true | skip
      simp [mkV, aggDesc, veqs, veq, Op.equalIn, run_underlying hu]
    case int k =>
      simp only [Option.some.injEq] at h
      subst h
      obtain ⟨x, rfl, gx⟩ := one hx
      obtain ⟨y, rfl, gy⟩ := one hy
      cases x <;> first | exact absurd gx Bool.false_ne_true | skip
      simp only [fit, beq_iff_eq] at gx
      cases y <;> first | exact absurd gy Bool.false_ne_true | skip
      simp only [fit, beq_iff_eq] at gy
      subst gx gy
      simp [mkV, aggDesc, veqs, veq, Op.equalIn, run_underlying hu]
    case string =>
      simp only [Option.some.injEq] at h
      subst h
      obtain ⟨x, rfl, gx⟩ := one hx
      obtain ⟨y, rfl, gy⟩ := one hy
      cases x <;> first | exact absurd gx Bool.false_ne_true | skip
      cases y <;> first | exact absurd gy Bool.false_ne_true | skip
      simp [mkV, aggDesc, veqs, veq, Op.equalIn, run_underlying hu, beq_toListBytes]
    case struct fs =>
      replace h : (if P.stoodInHeld t then none else shFieldsOf P (shOf P d) 0 fs.toList) = some shs := h
      split at h
      · cases h
      · rename_i hp
        have hfo : P.fieldsOf t = fs := by simp [Program.fieldsOf, hu]
        simp only [mkV, aggDesc, if_true]
        rw [run_equalIn_struct w d t _ _ (by rw [hfo]; exact hu) (by simpa using hp), hfo]
        have := eq_fields (fun t shs desc => equalIn_sh d t shs desc) (fun t shs hs => by
          cases d with
          | zero => simp [shOf] at hs
          | succ d => exact sh_desc hs) xs ys fs.toList 0 shs w h (by simpa using hx) (by simpa using hy) (by omega) (by omega)
        simpa using this
    case array n e =>
      replace h : (match shOf P d e, P.info? e with
        | some s, some i => if s.length = i.size ∧ 0 < i.size then some ((List.replicate n s).flatten) else none
        | _, _ => none) = some shs := h
      split at h
      · rename_i s i hs hi
        split at h
        · rename_i hc
          simp only [Option.some.injEq] at h
          subst h
          have hde : ∃ desc, P.underlying e = some desc ∧ (aggDesc desc = true ∨ s.length = 1) := by
            cases d with
            | zero => simp [shOf] at hs
            | succ d => exact sh_desc hs
          obtain ⟨de, hd, h1⟩ := hde
          rw [hc.1] at h1
          have := eq_arr hd hi h1 hc.1 hc.2 (fun xs ys w => equalIn_sh d e s de hs hd xs ys w) xs ys n 0 w (by simpa using hx) (by simpa using hy)
          simp only [mkV, aggDesc, if_true, Op.equalIn, Sem.run_bind, run_underlying hu, Result.andThen_ok, run_sizeOf hi, Std.Legacy.Range.forIn_eq_forIn_range', Std.Legacy.Range.size, Nat.sub_zero, Nat.add_sub_cancel, Nat.div_one]
          simp only [Nat.zero_mul, List.drop_zero] at this
          refine (congrArg (fun r => Result.andThen r _) this).trans ?_
          cases veqs xs ys <;> rfl
        · cases h
      · cases h
    all_goals exact absurd h (by simp)
end
end Go.DM
/- The D-machine, part G: the model's operations read as the machine's, one by one. Conditions: none. -/
namespace Go.DM
open Go.RowKit
set_option linter.unusedSimpArgs false
set_option linter.unusedVariables false
set_option linter.unusedSectionVars false
variable [Laid]

def ofParts (l : List (Nat × Operand)) (place : Nat → Option (Nat × Nat)) : Option (List (Nat × Nat × Opd)) :=
  l.mapM fun p => do
    let q ← place p.1
    let x ← Opd.of p.2
    pure (q.1, q.2, x)

/-- Where the parts of a literal of a struct or array type lie. -/
def places (P : Program) (t : TypeId) : Option (Nat → Option (Nat × Nat)) :=
  match P.underlying t with
  | some (.struct fields) => (fields.toList.mapM fun f => (P.info? f.type).map fun i => (f.offset, i.size)).map fun pl k => pl[k]?
  | some (.array _ e) => (P.info? e).map fun ie k => some (k * ie.size, ie.size)
  | _ => none

def optOpd : Option Operand → Option (Option Opd)
  | none => some none
  | some x => (Opd.of x).map some

/-- Is this the nil constant of a type without equality? Which? -/
def nilKind : TypeDesc → Opd → Option Nat
  | .slice _, .con .nil0 => some 0
  | .pointer _, .con (.v (.raw (.pointer none))) => some 1
  | .func _ _ _, .con (.v (.raw .nilFunc)) => some 2
  | _, _ => none
/-- How a map's keys are compared. -/
def keyInfo (P : Program) (k : TypeId) : Option (List Sh × Bool) :=
  match P.underlying k, shOf P 10000 k with
  | some d, some s => some (s, aggDesc d)
  | _, _ => none
/-- The zero value of a type. -/
def zeroD (P : Program) (e : TypeId) : Option DV := do
  let i ← P.info? e
  let z ← i.zero
  match z with
  | .agg cs => (cs.toList.mapM constD).map .agg
  | z => constD z

def compileBin (P : Program) (op : BinOp) (t : TypeId) (x y : Opd) : Option DOp :=
  match P.underlying t with
  | some (.int _) => match op with
    | .add | .sub | .mul | .quo | .rem | .eql | .neq | .lss | .leq | .gtr | .geq | .shl | .shr | .and | .or | .xor => some (.bin op x y)
    | _ => none
  | some d => match op, shOf P 10000 t with
    | .eql, some shs => if P.eqGuardType P.depth t then none else some (.eqT false (aggDesc d) shs x y)
    | .neq, some shs => if P.eqGuardType P.depth t then none else some (.eqT true (aggDesc d) shs x y)
    | .eql, none => (nilKind d y).map fun k => .isNil k false x
    | .neq, none => (nilKind d y).map fun k => .isNil k true x
    | _, _ => none
  | none => none

def compileCall (P : Program) (c : Call) : Option DOp :=
  match c.callee with
  | .value (.func f) => match P.funcs[f]? with
    | some fn => if fn.name = "runtime.NumGoroutine" ∨ fn.body.isNone then none else (c.args.toList.mapM Opd.of).map (.call f)
    | none => none
  | .value (.tmp t) => (c.args.toList.mapM Opd.of).map (.callv (.tmp t))
  | .builtin .len => match c.args.toList, c.argTypes.toList with
    | [x], [t] => match P.underlying t with
      | some (.slice _) => (Opd.of x).map .len
      | some .string => (Opd.of x).map .lenS
      | some (.map _ _) => (Opd.of x).map .lenM
      | _ => none
    | _, _ => none
  | .builtin .copy => match c.args.toList, c.argTypes.toList with
    | [x, y], [t, _] => match P.underlying t with
      | some (.slice e) => match P.info? e with
        | some i => do return .copy i.size (← Opd.of x) (← Opd.of y)
        | none => none
      | _ => none
    | _, _ => none
  | .builtin .delete => match c.args.toList, c.argTypes.toList with
    | [x, k], t :: _ => match P.underlying t with
      | some (.map kt _) => match keyInfo P kt with
        | some ki => do return .mapDel ki.1 ki.2 (← Opd.of x) (← Opd.of k)
        | none => none
      | _ => none
    | _, _ => none
  | .builtin .min => match c.args.toList with
    | [x, y] => do return .minmax false (← Opd.of x) (← Opd.of y)
    | _ => none
  | .builtin .max => match c.args.toList with
    | [x, y] => do return .minmax true (← Opd.of x) (← Opd.of y)
    | _ => none
  | .builtin .append => match c.args.toList, c.argTypes.toList with
    | [x, y], [t, t'] => if t ≠ t' then none else match P.underlying t with
      | some (.slice e) => match P.info? e with
        | some i => match i.zero with
          | some z => if z.cells.size = i.size ∧ 0 < i.size then do return .append e i.size i.bytes (← Opd.of x) (← Opd.of y) else none
          | none => none
        | none => none
      | _ => none
    | _, _ => none
  | _ => none

/-- One operation of the model, read. -/
def compileOp (P : Program) (o : Oper) : Option DOp :=
  match o.op with
  | .move x | .assign x => (Opd.of x).map .mov
  | .pick c a b => do return .pick (← Opd.of c) (← Opd.of a) (← Opd.of b)
  | .alloc e => do
    let i ← P.info? e
    let z ← i.zero
    return .alloc (← z.cells.toList.mapM constD)
  | .box _ x => (Opd.of x).map .box
  | .build t parts => do
    let i ← P.info? t
    let z ← i.zero
    let zs ← z.cells.toList.mapM constD
    let pl ← places P t
    return .build zs (← ofParts parts.toList pl)
  | .buildSlice t len parts =>
    match P.underlying t with
    | some (.slice e) => do
      let ei ← P.info? e
      if len * ei.size > 2 ^ 24 ∨ ei.size = 0 then none else
      let z ← ei.zero
      let zs ← (((Array.range (len * ei.size)).map (z.cells[· % z.cells.size]!)).toList).mapM constD
      return .bslice len ei.size zs (← ofParts parts.toList fun k => some (k * ei.size, ei.size))
    | _ => none
  | .load t a => match P.underlying t, P.info? t with
    | some d, some i => (Opd.of a).map (.load i.size (aggDesc d))
    | _, _ => none
  | .store t a x => do
    let i ← P.info? t
    return .store i.size (← Opd.of a) (← Opd.of x)
  | .nilCheck x => (Opd.of x).map .nilCheck
  | .binOp op t x y _ => do compileBin P op t (← Opd.of x) (← Opd.of y)
  | .unOp op _ x => (Opd.of x).map (.un op)
  | .convert src dst x => match P.underlying src, P.underlying dst with
    | some (.int _), some (.int k) => (Opd.of x).map (.conv k)
    | _, _ => none
  | .fieldAddr s x f => match P.underlying s with
    | some (.struct fs) => match fs[f]? with
      | some fd => match P.info? fd.type with
        | some fi => if fi.size = 0 then none else (Opd.of x).map (.addOff fd.offset)
        | none => none
      | none => none
    | _ => none
  | .field s x f => match P.underlying s with
    | some (.struct fs) => match fs[f]? with
      | some fd => match P.info? fd.type, P.underlying fd.type with
        | some fi, some d => (Opd.of x).map (.field fd.offset fi.size (aggDesc d))
        | _, _ => none
      | none => none
    | _ => none
  | .indexAddr t x ix => match P.underlying t with
    | some (.slice e) => match P.info? e with
      | some i => do return .idxAddr i.size (← Opd.of x) (← Opd.of ix)
      | none => none
    | some (.array n e) => match P.info? e with
      | some i => do return .arrAddr n i.size (← Opd.of x) (← Opd.of ix)
      | none => none
    | _ => none
  | .slice t x lo hi none => match P.underlying t with
    | some (.slice e) => match P.info? e with
      | some i => do return .slice i.size (← Opd.of x) (← optOpd lo) (← optOpd hi)
      | none => none
    | _ => none
  | .extract t i => (Opd.of t).map (.extract i)
  | .makeSlice t l c => match P.underlying t with
    | some (.slice e) => match P.info? e with
      | some i => match i.zero with
        | some z => match l, c with
          | .tmp a, .tmp b => if a = b ∧ 0 < i.size then do return .mkSlice e i.size i.bytes (← z.cells.toList.mapM constT) (.tmp a) else none
          | .const (.int k a), .const (.int k' b) => if a = b ∧ k = k' ∧ 0 < i.size then do return .mkSlice e i.size i.bytes (← z.cells.toList.mapM constT) (.con (.v (.int k a))) else none
          | _, _ => none
        | none => none
      | none => none
    | _ => none
  | .makeFunc f first caps => if first.isEmpty then do return .mkFn f (← caps.toList.mapM Opd.of) else none
  | .call c => compileCall P c
  | .makeMap t none => match P.underlying t with
    | some (.map kt _) => (keyInfo P kt).map fun ki => .mkMap ki.1 ki.2
    | _ => none
  | .lookup t x k ok => match P.underlying t with
    | some (.map kt e) => match keyInfo P kt, zeroD P e with
      | some ki, some z => do return .lookup ki.1 ki.2 z ok (← Opd.of x) (← Opd.of k)
      | _, _ => none
    | _ => none
  | .mapUpdate t x k y => match P.underlying t with
    | some (.map kt _) => match keyInfo P kt with
      | some ki => do return .mapUpd ki.1 ki.2 (← Opd.of x) (← Opd.of k) (← Opd.of y)
      | none => none
    | _ => none
  | .mapEntry t x k => match P.underlying t with
    | some (.map kt e) => match keyInfo P kt, zeroD P e with
      | some ki, some z => do return .mapEnt ki.1 ki.2 z (← Opd.of x) (← Opd.of k)
      | _, _ => none
    | _ => none
  | .entryStore _ x s y => do return .entSt (← Opd.of x) (← Opd.of s) (← Opd.of y)
  | .range t x => match P.underlying t with
    | some (.map _ _) => (Opd.of x).map .rangeM
    | _ => none
  | .entry x => (Opd.of x).map .entryM
  | .index t x i => match P.underlying t with
    | some .string => do return .indexS (← Opd.of x) (← Opd.of i)
    | _ => none
  | .panic _ | .makeInterface .. => some .fail
  | _ => none

section
variable {w : World} {W : Nat → Prop} {objs : Obs} {L : Loc}
theorem foldl_set (off : Nat) : ∀ (vs : List Value) (j0 : Nat) (cs : Array Value), off + j0 + vs.length ≤ cs.size →
    (vs.zipIdx j0).foldl (fun cs (x : Value × Nat) => cs.setIfInBounds (off + x.2) x.1) cs = (splice cs.toList (off + j0) vs).toArray
  | [], j0, cs, _ => by simp [splice]
  | v :: vs, j0, cs, h => by
    simp only [List.length_cons] at h
    simp only [List.zipIdx_cons, List.foldl_cons]
    rw [foldl_set off vs (j0 + 1) _ (by simp; omega)]
    congr 1
    simp only [splice, Array.toList_setIfInBounds, List.length_cons]
    have e := list_seg_step cs.toList (off + j0) v vs (by simp; omega)
    simpa [Nat.add_assoc] using e

theorem fill_rel {a : Act} {ρ : Nat → DV} (hg : GOk w (WW W objs L)) (hρ : ∀ t, RelD w W objs L (ρ t) (a.tmps.getD t Go.undef)) {place : Nat → Option (Nat × Nat)} : ∀ (ps : List (Nat × Operand)) (qs : List (Nat × Nat × Opd)), ofParts ps place = some qs →
    ∀ (cells : Array Value) (ds : List DV), RelDs w W objs L ds cells.toList → fillOk cells.size (qs.map fun p => (p.1, p.2.1, p.2.2.ev ρ)) →
      ∃ cells', Instr.fill place cells (ps.map fun p => (p.1, a.eval p.2)) = some cells' ∧ RelDs w W objs L (fillD ds (qs.map fun p => (p.1, p.2.1, p.2.2.ev ρ))) cells'.toList ∧ cells'.size = cells.size
  | [], qs, h, cells, ds, hd, _ => by
    simp [ofParts] at h
    subst h
    exact ⟨cells, rfl, by simpa [fillD] using hd, rfl⟩
  | p :: ps, qs, h, cells, ds, hd, hok => by
    simp only [ofParts, List.mapM_cons, Option.pure_def, Option.bind_eq_bind, Option.bind_eq_some_iff, Option.some.injEq] at h
    obtain ⟨q, ⟨pl, hpl, x, hx, rfl⟩, qs', hqs, rfl⟩ := h
    simp only [List.map_cons, fillOk] at hok
    obtain ⟨hl, hfit, hce, hrest⟩ := hok
    have hv := Opd.of_rel hg hρ hx
    have hcs := cellables_one hv hce
    have hcl : (a.eval p.2).cells.size = pl.2 := by have := RelDs.length hcs; simpa [hl] using this
    have hset : ((a.eval p.2).cells.zipIdx.foldl (fun cs (x : Value × Nat) => cs.setIfInBounds (pl.1 + x.2) x.1) cells) = (splice cells.toList pl.1 (a.eval p.2).cells.toList).toArray := by
      rw [← Array.foldl_toList, Array.toList_zipIdx]
      have := foldl_set pl.1 (a.eval p.2).cells.toList 0 cells (by simp [hcl]; omega)
      simpa using this
    have hd' : RelDs w W objs L (splice ds pl.1 (cellsOf (x.ev ρ))) (splice cells.toList pl.1 (a.eval p.2).cells.toList).toArray.toList := by
      simpa using RelDs.splice pl.1 hd hcs
    have hsz : (splice cells.toList pl.1 (a.eval p.2).cells.toList).toArray.size = cells.size := by
      have := length_splice (l := cells.toList) (new := (a.eval p.2).cells.toList) (off := pl.1) (by simp [hcl]; omega)
      simpa using this
    obtain ⟨cells', h1, h2, h3⟩ := fill_rel hg hρ ps qs' (by simpa [ofParts] using hqs) _ _ hd' (by rw [hsz]; exact hrest)
    refine ⟨cells', ?_, by simpa only [List.map_cons, fillD] using h2, h3.trans hsz⟩
    simp only [List.map_cons, Instr.fill, hpl, hcl]
    rw [if_neg (by simp; omega), hset]
    exact h1

theorem run_buildSlice {P : Program} (w : World) {t e : TypeId} {i : TypeInfo} {z : Value} (ht : P.underlying t = some (.slice e)) (hi : P.info? e = some i) (hz : i.zero = some z) (len : Nat) (hlen : ¬ len * i.size > 2 ^ 24) {parts : Array (Nat × Value)} {cells : Array Value}
    (h : Instr.fill (fun k => some (k * i.size, i.size)) ((Array.range (len * i.size)).map (z.cells[· % z.cells.size]!)) parts.toList = some cells) :
    (Instr.buildSlice t len parts).run P w = .ok (.slice (some ⟨w.heap.size, 0, none⟩) len len) (w.alloc (.cells cells e)) := by
  by_cases h0 : len * i.size = 0
  · have h' : Instr.fill (fun k => some (k * i.size, i.size)) #[] parts.toList = some cells := by
      rw [h0] at h
      simpa [Array.range_zero'] using h
    simp [Instr.buildSlice, run_underlying ht, run_sizeOf hi, h0, h', newRow, Array.range_zero']
  · simp [Instr.buildSlice, run_underlying ht, run_sizeOf hi, zeroValue, typeInfo, hi, hz, h0, hlen, h, newRow]
end
end Go.DM
/- The D-machine, part H: each operation does in the model what the machine says. Conditions: none. -/
namespace Go.DM
open Go.RowKit
set_option linter.unusedSimpArgs false
set_option linter.unusedVariables false
set_option linter.unusedSectionVars false
variable [Laid]

/-- What an operation's run leaves. -/
def OpRun (P : Program) (base : Nat) (W M : Nat → Prop) (w0 : World) (objs : Obs) (L : Loc) (w : World) (a : Act) (o : Oper) (e : Eff) : Prop :=
  ∃ nx v w' L', (execOp a.eval o).run P w = .ok nx w' ∧ (nx = .value v ∨ (nx = .skip ∧ v = Go.undef)) ∧
    RelO base W M w0 (putO objs e.put) w' L' ∧ Adv W objs L w (putO objs e.put) L' w' ∧ RelD w' W (putO objs e.put) L' e.val v

section
variable {P : Program} {base : Nat} {W M : Nat → Prop} {w0 : World} {objs : Obs} {L : Loc} {w : World} {a : Act} {o : Oper}

theorem OpRun.quiet (hO : RelO base W M w0 objs w L) {e : Eff} (hput : e.put = none) {v : Value} (hrun : (execOp a.eval o).run P w = .ok (.value v) w) (hv : RelD w W objs L e.val v) : OpRun P base W M w0 objs L w a o e :=
  ⟨.value v, v, w, L, hrun, .inl rfl, by rw [hput]; exact hO, by rw [hput]; exact Adv.refl_of_keeps (Keeps.refl _ _), by rw [hput]; exact hv⟩

theorem OpRun.int (hO : RelO base W M w0 objs w L) {e : Eff} (hput : e.put = none) {k : IntKind} {n : Int} (hval : e.val = .v (.int k n)) (hrun : (execOp a.eval o).run P w = .ok (.value (.int k n)) w) : OpRun P base W M w0 objs L w a o e :=
  OpRun.quiet hO hput hrun (by rw [hval]; simp [RelD, RelT])
theorem OpRun.bool (hO : RelO base W M w0 objs w L) {e : Eff} (hput : e.put = none) {b : Bool} (hval : e.val = .v (.bool b)) (hrun : (execOp a.eval o).run P w = .ok (.value (.bool b)) w) : OpRun P base W M w0 objs L w a o e :=
  OpRun.quiet hO hput hrun (by rw [hval]; simp [RelD, RelT])

theorem bin_sound (hO : RelO base W M w0 objs w L) {op : BinOp} {t : TypeId} {x y : Operand} {yt : TypeId} (ho : o.op = .binOp op t x y yt) {d1 d2 : DV} (h1 : RelD w W objs L d1 (a.eval x)) (h2 : RelD w W objs L d2 (a.eval y)) (hok : (binSem op d1 d2).ok) :
    OpRun P base W M w0 objs L w a o (binSem op d1 d2) := by
  have key : ∀ {k k' : IntKind} {p q : Int}, d1 = .v (.int k p) → d2 = .v (.int k' q) → OpRun P base W M w0 objs L w a o (binSem op d1 d2) := by
    rintro k k' p q rfl rfl
    simp only [RelD, RelT] at h1 h2
    have hex : ∀ (v : Value), (eqGuard op t x y (.int k p) (.int k' q)).run P w = .ok () w → (binOp op t (.int k p) (.int k' q)).run P w = .ok v w → (execOp a.eval o).run P w = .ok (.value v) w := by
      intro v e1 e2
      simp [execOp, ho, h1, h2, e1, e2]
    have hg : (eqGuard op t x y (.int k p) (.int k' q)).run P w = .ok () w := by cases op <;> simp [eqGuard]
    cases op <;> simp only [binSem, bad] at hok ⊢
    all_goals first
      | exact hok.elim
      | (subst hok; first
          | (refine OpRun.int hO rfl rfl (hex _ hg ?_); simp [binOp, Op.intArith]; done)
          | (refine OpRun.int hO rfl rfl (hex _ hg ?_); simp [binOp, Op.intBits]; done)
          | (refine OpRun.bool hO rfl rfl (hex _ hg ?_); simp [binOp, Op.intCmp]; done)
          | (refine OpRun.bool hO rfl rfl (hex _ hg ?_); simp [binOp, Op.intCmp]; rfl))
      | (refine OpRun.int hO rfl rfl (hex _ hg ?_); simp [binOp, shift_shl_any _ _ _ _ hok, shift_shr_any _ _ _ _ hok]; done)
      | (obtain ⟨rfl, hq⟩ := hok; exact OpRun.int hO rfl rfl (hex _ hg (by simp [binOp, Op.intDiv, hq])))
  unfold binSem at hok
  split at hok
  · exact key rfl rfl
  · exact hok.elim

theorem aggCells_rel {d : DV} {x : Value} {cs : List DV} (h : RelD w W objs L d x) (hc : aggCells d = some cs) : ∃ vs : Array Value, x = .agg vs ∧ RelDs w W objs L cs vs.toList := by
  cases d with
  | v t =>
    cases t with
    | agg ts =>
      simp only [aggCells, Option.some.injEq] at hc
      subst hc
      simp only [RelD, RelT] at h
      obtain ⟨vs, rfl, hr⟩ := h
      exact ⟨vs, rfl, RelDs.of_relL hr⟩
    | _ => simp [aggCells] at hc
  | agg ds =>
    simp only [aggCells, Option.some.injEq] at hc
    subst hc
    simp only [RelD] at h
    exact h
  | _ => simp [aggCells] at hc

theorem field_sound {s : TypeId} {xv : Value} {f : Nat} {fs : Array Field} {fd : Field} {i : TypeInfo} {desc : TypeDesc} (hs : P.underlying s = some (.struct fs)) (hf : fs[f]? = some fd) (hi : P.info? fd.type = some i) (hd : P.underlying fd.type = some desc)
    {d : DV} (h : RelD w W objs L d xv) (hok : (fieldSem fd.offset i.size (aggDesc desc) d).ok) :
    (fieldSem fd.offset i.size (aggDesc desc) d).put = none ∧ ∃ v, (Instr.field s xv f).run P w = .ok v w ∧ RelD w W objs L (fieldSem fd.offset i.size (aggDesc desc) d).val v := by
  unfold fieldSem at hok ⊢
  cases hc : aggCells d with
  | none => simp [hc, bad] at hok
  | some cs =>
    simp only [hc] at hok ⊢
    obtain ⟨vs, rfl, hr⟩ := aggCells_rel h hc
    have hl := RelDs.length hr
    have hp := run_part (P := P) w hd hi (xs := vs.toList) (off := fd.offset) hok.2 (by omega)
    simp only [Array.toArray_toList] at hp
    refine ⟨trivial, _, by simp [Instr.field, run_underlying hs, hf, asAgg, hp]; rfl, ?_⟩
    by_cases ha : aggDesc desc = true
    · simp only [ha, if_true, mkV, RelD]
      exact ⟨_, rfl, by simpa using RelDs.take i.size (RelDs.drop fd.offset hr)⟩
    · have h1 : i.size = 1 := hok.2.resolve_left ha
      have hlt : fd.offset < cs.length := by omega
      obtain ⟨v, hv', _, hr'⟩ := RelDs.get hr (i := fd.offset) (d := cs[fd.offset]) (by simp [hlt])
      have e1 : (List.take i.size (List.drop fd.offset vs.toList)).getD 0 Go.undef = v := by
        rw [h1]
        simp only [List.getD, List.getElem?_take, List.getElem?_drop, Nat.add_zero, hv']
        simp
      have e2 : cs.getD fd.offset .undef = cs[fd.offset] := by simp [List.getD, hlt]
      simp only [ha, if_false, mkV, e1, e2]
      exact hr'

theorem addOff_sound {k : Nat} {d : DV} {xv : Value} (h : RelD w W objs L d xv) (hok : (addOffSem k d).ok) :
    (addOffSem k d).put = none ∧ ∃ b o, xv = .pointer (some ⟨b, o, none⟩) ∧ RelD w W objs L (addOffSem k d).val (.pointer (some ⟨b, o + k, none⟩)) := by
  cases d with
  | ptr r off =>
    simp only [RelD] at h
    obtain ⟨hc, rfl⟩ := h
    exact ⟨rfl, _, _, rfl, by simp only [addOffSem, RelD]; exact ⟨hc, trivial⟩⟩
  | tptr rows i off =>
    simp only [RelD] at h
    obtain ⟨b, o, sz, rfl, rest⟩ := h
    exact ⟨rfl, _, _, rfl, by simp only [addOffSem, RelD]; exact ⟨b, o, sz, by rw [Nat.add_assoc], rest⟩⟩
  | bptr cs off =>
    simp only [RelD] at h
    obtain ⟨b, o, rfl, rest⟩ := h
    exact ⟨rfl, _, _, rfl, by simp only [addOffSem, RelD]; exact ⟨b, o, by rw [Nat.add_assoc], rest⟩⟩
  | aptr r ver i off =>
    simp only [RelD] at h
    obtain ⟨⟨b, o, rfl⟩, ver', e, sz, rows, ho, hle, hx⟩ := h
    refine ⟨rfl, _, _, rfl, ?_⟩
    simp only [addOffSem, RelD]
    refine ⟨⟨_, _, rfl⟩, ver', e, sz, rows, ho, hle, fun hv => ?_⟩
    obtain ⟨g, hg, hp, h0, h1⟩ := hx hv
    simp only [Value.pointer.injEq, Option.some.injEq, Addr.mk.injEq, and_true] at hp
    exact ⟨g, hg, by rw [hp.1, hp.2, Nat.add_assoc], h0, h1⟩
  | v t =>
    cases t with
    | box cs =>
      simp only [RelD, RelT] at h
      obtain ⟨b, o, rfl, rest⟩ := h
      exact ⟨rfl, _, _, rfl, by simp only [addOffSem, RelD]; exact ⟨b, o, rfl, rest⟩⟩
    | _ => exact hok.elim
  | _ => exact hok.elim

theorem nilCheck_sound {d : DV} {xv : Value} (h : RelD w W objs L d xv) (hok : (nilCheckSem d).ok) :
    (nilCheckSem d).put = none ∧ (nilCheckSem d).val = d ∧ ((∃ p, xv = .pointer (some p)) ∨ ∃ f caps, xv = .func (.func f) #[] caps) := by
  cases d with
  | ptr r off => simp only [RelD] at h; obtain ⟨_, rfl⟩ := h; exact ⟨rfl, rfl, .inl ⟨_, rfl⟩⟩
  | tptr rows i off => simp only [RelD] at h; obtain ⟨b, o, sz, rfl, _⟩ := h; exact ⟨rfl, rfl, .inl ⟨_, rfl⟩⟩
  | bptr cs off => simp only [RelD] at h; obtain ⟨b, o, rfl, _⟩ := h; exact ⟨rfl, rfl, .inl ⟨_, rfl⟩⟩
  | aptr r ver i off => simp only [RelD] at h; obtain ⟨⟨b, o, rfl⟩, _⟩ := h; exact ⟨rfl, rfl, .inl ⟨_, rfl⟩⟩
  | v t =>
    cases t with
    | box cs => simp only [RelD, RelT] at h; obtain ⟨b, o, rfl, _⟩ := h; exact ⟨rfl, rfl, .inl ⟨_, rfl⟩⟩
    | fn f caps =>
      cases f with
      | func f => simp only [RelD, RelT] at h; obtain ⟨vs, rfl, _⟩ := h; exact ⟨rfl, rfl, .inr ⟨_, _, rfl⟩⟩
      | _ => exact hok.elim
    | _ => exact hok.elim
  | _ => exact hok.elim

theorem idx_sound {t e : TypeId} {i : TypeInfo} (hO : RelO base W M w0 objs w L) (ht : P.underlying t = some (.slice e)) (hi : P.info? e = some i) {d d2 : DV} {xv yv : Value} (h : RelD w W objs L d xv) (h2 : RelD w W objs L d2 yv) (hok : (idxSem i.size objs d d2).ok) :
    (idxSem i.size objs d d2).put = none ∧ ∃ v, (Instr.indexAt t xv yv).run P w = .ok v w ∧ RelD w W objs L (idxSem i.size objs d d2).val v := by
  have hrun : ∀ (b o n c : Nat) (k : IntKind) (j : Int), 0 ≤ j → j < n → (Instr.indexAt t (.slice (some ⟨b, o, none⟩) n c) (.int k j)).run P w = .ok (.pointer (some ⟨b, o + j.toNat * i.size, none⟩)) w := by
    intro b o n c k j h0 h1
    simp [Instr.indexAt, asIntOf, run_underlying ht, h0, h1, run_sizeOf hi, add_off]
  unfold idxSem at hok ⊢
  split at hok
  · rename_i rows k j
    simp only at hok ⊢
    obtain ⟨h0, h1, hsz⟩ := hok
    simp only [RelD, RelT] at h h2
    subst h2
    rcases h with ⟨rfl, _⟩ | ⟨b, o, cap, sz, rfl, hb, hn, hc, hr⟩
    · simp at h1; omega
    · have hrow := (RelRows.row hr (rowAt_get h0 h1)).1
      have hsz' : sz = i.size := by omega
      subst hsz'
      refine ⟨trivial, _, hrun b o _ _ k j h0 h1, ?_⟩
      simp only [RelD]
      exact ⟨b, o, _, by rw [Nat.add_zero], hb, hn, hr, h0, h1⟩
  · rename_i r ver k j
    cases hc : objs r with
    | none => simp [hc, bad] at hok
    | some ob =>
      cases ob with
      | box cs => simp [hc, bad] at hok
      | map _ _ _ _ => simp [hc, bad] at hok
      | iter _ _ _ _ => simp [hc, bad] at hok
      | arr ver' e' sz' rows =>
        simp only [hc] at hok ⊢
        obtain ⟨rfl, rfl, h0, h1⟩ := hok
        simp only [RelD, RelT] at h h2
        subst h2
        obtain ⟨_, ver2, e2, sz2, rows2, ho2, _, hv⟩ := h
        rw [hc] at ho2
        cases ho2
        have hv := hv rfl
        subst hv
        have hob := hO.ob r _ hc
        obtain ⟨hsz, hrows, hm, hal⟩ := hob
        rcases hal with ⟨rfl, _⟩ | ⟨g', cap, cur, hv', hp, hh, hle, hcap, hcur, hrel⟩
        · simp at h1; omega
        · refine ⟨trivial, _, by rw [hv']; exact hrun g' 0 _ _ k j h0 h1, ?_⟩
          simp only [RelD]
          exact ⟨⟨_, _, rfl⟩, ver, e', _, rows, hc, Nat.le_refl _, fun _ => ⟨g', by simp [hv', capBlock, Nat.pos_iff_ne_zero.1 hp], by simp, h0, h1⟩⟩
  · rename_i r ver lo n k j
    cases hc : objs r with
    | none => simp [hc, bad] at hok
    | some ob =>
      cases ob with
      | box cs => simp [hc, bad] at hok
      | map _ _ _ _ => simp [hc, bad] at hok
      | iter _ _ _ _ => simp [hc, bad] at hok
      | arr ver' e' sz' rows =>
        simp only [hc] at hok ⊢
        obtain ⟨rfl, rfl, h0, h1⟩ := hok
        simp only [RelD, RelT] at h h2
        subst h2
        obtain ⟨_, ver2, e2, sz2, rows2, ho2, _, hv⟩ := h
        rw [hc] at ho2
        cases ho2
        have hv := hv rfl
        rcases asl_rows hO hc hv with ⟨rfl, _⟩ | ⟨g, c, hcb, rfl, hnc, _⟩
        · simp at h1; omega
        · refine ⟨trivial, _, hrun g _ _ _ k j h0 h1, ?_⟩
          have hl := hv.1
          have e1 : ((lo : Int) + j).toNat = lo + j.toNat := by omega
          simp only [RelD]
          exact ⟨⟨_, _, rfl⟩, ver, e', _, rows, hc, Nat.le_refl _, fun _ => ⟨g, hcb, by rw [e1, Nat.add_mul]; simp, by omega, by omega⟩⟩
  · rename_i r n k j
    simp only [RelD, RelT] at h h2
    subst h2
    obtain ⟨hc, rfl⟩ := h
    obtain ⟨h0, h1⟩ := hok
    refine ⟨rfl, _, hrun _ _ _ _ k j h0 h1, ?_⟩
    simp only [RelD]
    exact ⟨hc, by simp⟩
  · exact hok.elim

theorem arrAddr_sound {t e : TypeId} {i : TypeInfo} {n : Nat} (ht : P.underlying t = some (.array n e)) (hi : P.info? e = some i) {d d2 : DV} {xv yv : Value} (h : RelD w W objs L d xv) (h2 : RelD w W objs L d2 yv) (hok : (arrAddrSem n i.size d d2).ok) :
    (arrAddrSem n i.size d d2).put = none ∧ ∃ v, (Instr.indexAt t xv yv).run P w = .ok v w ∧ RelD w W objs L (arrAddrSem n i.size d d2).val v := by
  have hrun : ∀ (b o : Nat) (k : IntKind) (j : Int), 0 ≤ j → j < n → (Instr.indexAt t (.pointer (some ⟨b, o, none⟩)) (.int k j)).run P w = .ok (.pointer (some ⟨b, o + j.toNat * i.size, none⟩)) w := by
    intro b o k j h0 h1
    by_cases hn : n ≤ 1 <;> simp [Instr.indexAt, asIntOf, run_underlying ht, h0, h1, run_sizeOf hi, add_off, Instr.sureAddr, hn]
  unfold arrAddrSem at hok ⊢
  split at hok
  · rename_i r off k j
    simp only [RelD, RelT] at h h2
    obtain ⟨hc, rfl⟩ := h
    subst h2
    exact ⟨rfl, _, hrun _ _ k j hok.1 hok.2, by simp only [RelD]; exact ⟨hc, trivial⟩⟩
  · rename_i rows q off k j
    simp only [RelD, RelT] at h h2
    obtain ⟨b, o, sz, rfl, rest⟩ := h
    subst h2
    exact ⟨rfl, _, hrun _ _ k j hok.1 hok.2, by simp only [RelD]; exact ⟨b, o, sz, by rw [Nat.add_assoc], rest⟩⟩
  · rename_i cs off k j
    simp only [RelD, RelT] at h h2
    obtain ⟨b, o, rfl, rest⟩ := h
    subst h2
    exact ⟨rfl, _, hrun _ _ k j hok.1 hok.2, by simp only [RelD]; exact ⟨b, o, by rw [Nat.add_assoc], rest⟩⟩
  · rename_i cs k j
    simp only [RelD, RelT] at h h2
    obtain ⟨b, o, rfl, rest⟩ := h
    subst h2
    exact ⟨rfl, _, hrun _ _ k j hok.1 hok.2, by simp only [RelD]; exact ⟨b, o, rfl, rest⟩⟩
  · rename_i r ver q off k j
    simp only [RelD, RelT] at h h2
    obtain ⟨⟨b, o, rfl⟩, ver', e, sz, rows, ho, hle, hx⟩ := h
    subst h2
    refine ⟨rfl, _, hrun _ _ k j hok.1 hok.2, ?_⟩
    simp only [RelD]
    refine ⟨⟨_, _, rfl⟩, ver', e, sz, rows, ho, hle, fun hv => ?_⟩
    obtain ⟨g, hg, hp, h0, h1⟩ := hx hv
    simp only [Value.pointer.injEq, Option.some.injEq, Addr.mk.injEq, and_true] at hp
    exact ⟨g, hg, by rw [hp.1, hp.2, Nat.add_assoc], h0, h1⟩
  · exact hok.elim
theorem len_sound {x : Operand} {t e : TypeId} (hO : RelO base W M w0 objs w L) (ho : o.op = .call { callee := .builtin .len, args := #[x], argTypes := #[t] }) (ht : P.underlying t = some (.slice e)) {d : DV} (h : RelD w W objs L d (a.eval x)) (hok : (lenSem objs d).ok) :
    OpRun P base W M w0 objs L w a o (lenSem objs d) := by
  have hsl : ∀ (p : Option Addr) (n c : Nat), a.eval x = .slice p n c → (execOp a.eval o).run P w = .ok (.value (.int .i64 n)) w := by
    rintro p n c hx
    simp [execOp, ho, resolve, invoke, builtin, hx, Builtin.len_, run_underlying ht, goInt]
  cases d with
  | v t' =>
    cases t' with
    | sl rows =>
      simp only [RelD, RelT] at h
      rcases h with ⟨rfl, p, c, hx⟩ | ⟨b, oo, cap, sz, hx, _⟩
      · exact OpRun.int hO rfl rfl (hsl _ _ _ hx)
      · exact OpRun.int hO rfl rfl (hsl _ _ _ hx)
    | _ => exact hok.elim
  | nil0 =>
    simp only [RelD] at h
    obtain ⟨p, hx⟩ := h
    exact OpRun.int hO rfl rfl (hsl _ _ _ hx)
  | aref r ver =>
    simp only [RelD] at h
    obtain ⟨_, ver', e', sz, rows, hc, _, hv⟩ := h
    simp only [lenSem, hc] at hok ⊢
    have hv := hv hok
    have hob := hO.ob r _ hc
    obtain ⟨hsz, hrows, hm, hal⟩ := hob
    rcases hal with ⟨rfl, p, hp⟩ | ⟨g', cap, cur, hv', hp, hh, hle, hcap, hcur, hrel⟩
    · exact OpRun.int hO rfl rfl (hsl _ _ _ (hv.trans hp))
    · exact OpRun.int hO rfl rfl (hsl _ _ _ (hv.trans hv'))
  | asl r ver lo n =>
    simp only [RelD] at h
    obtain ⟨⟨p, c, hx⟩, _⟩ := h
    exact OpRun.int hO rfl rfl (hsl _ _ _ hx)
  | bsl r n =>
    simp only [RelD] at h
    obtain ⟨_, hx⟩ := h
    exact OpRun.int hO rfl rfl (hsl _ _ _ hx)
  | _ => exact hok.elim

theorem lenS_sound {x : Operand} {t : TypeId} (hO : RelO base W M w0 objs w L) (ho : o.op = .call { callee := .builtin .len, args := #[x], argTypes := #[t] }) (ht : P.underlying t = some .string) {d : DV} (h : RelD w W objs L d (a.eval x)) (hok : (lenSSem d).ok) :
    OpRun P base W M w0 objs L w a o (lenSSem d) := by
  unfold lenSSem at hok ⊢
  split at hok
  · simp only [RelD, RelT] at h
    refine OpRun.int hO rfl rfl ?_
    simp [execOp, ho, resolve, invoke, builtin, h, Builtin.len_, run_underlying ht, goInt]
  · exact hok.elim

theorem minmax_sound {x y : Operand} {ts : Array TypeId} (m : Bool) (hO : RelO base W M w0 objs w L) (ho : o.op = .call { callee := .builtin (if m then .max else .min), args := #[x, y], argTypes := ts }) {d1 d2 : DV} (h1 : RelD w W objs L d1 (a.eval x)) (h2 : RelD w W objs L d2 (a.eval y)) (hok : (minmaxSem m d1 d2).ok) :
    OpRun P base W M w0 objs L w a o (minmaxSem m d1 d2) := by
  unfold minmaxSem at hok ⊢
  split at hok
  · rename_i k p k' q
    simp only [RelD, RelT] at h1 h2
    have hok' : k = k' := hok
    subst hok'
    cases m
    · have e : (if q < p then q else p) = min p q := by omega
      refine OpRun.int hO rfl rfl ?_
      simp [execOp, ho, resolve, invoke, builtin, h1, h2, run_min_int2, e]
    · have e : (if q > p then q else p) = max p q := by omega
      refine OpRun.int hO rfl rfl ?_
      simp only [gt_iff_lt] at e
      simp [execOp, ho, resolve, invoke, builtin, h1, h2, run_max_int2, e]
  · exact hok.elim

theorem intOf_rel {d : DV} {x : Value} {n : Int} (h : RelD w W objs L d x) (hi : intOf? d = some n) : ∃ k, x = .int k n := by
  unfold intOf? at hi
  split at hi
  · simp only [Option.some.injEq] at hi
    subst hi
    simp only [RelD, RelT] at h
    exact ⟨_, h⟩
  · cases hi

theorem slice_sound (hO : RelO base W M w0 objs w L) {t e : TypeId} {i : TypeInfo} (ht : P.underlying t = some (.slice e)) (hi : P.info? e = some i) {d : DV} {xv : Value} (h : RelD w W objs L d xv) {lo hi' : Option DV} {lv hv : Option Value}
    (hlo : (lo = none ∧ lv = none) ∨ ∃ dl vl, lo = some dl ∧ lv = some vl ∧ RelD w W objs L dl vl) (hhi : (hi' = none ∧ hv = none) ∨ ∃ dl vl, hi' = some dl ∧ hv = some vl ∧ RelD w W objs L dl vl)
    (hok : (sliceSem i.size lo hi' objs d).ok) :
    (sliceSem i.size lo hi' objs d).put = none ∧ ∃ v, (Instr.sliceAt t xv lv hv none).run P w = .ok v w ∧ RelD w W objs L (sliceSem i.size lo hi' objs d).val v := by
  have hrun : ∀ (p : Option Addr) (n c : Nat) (l hh : Int), 0 ≤ l → l ≤ hh → hh ≤ n → n ≤ c → (lv = none ∧ l = 0 ∨ ∃ k, lv = some (.int k l)) → (hv = none ∧ hh = n ∨ ∃ k, hv = some (.int k hh)) →
      (Instr.sliceAt t (.slice p n c) lv hv none).run P w = .ok (.slice (if c = l.toNat then p else p.map (·.add (l.toNat * i.size))) (hh.toNat - l.toNat) (c - l.toNat)) w := by
    intro p n c l hh h0 h1 h2 h3 hl hh'
    have b2 : hh ≤ c := by omega
    have b3 : 0 ≤ hh := by omega
    have b4 : l ≤ (hh.toNat : Int) := by omega
    have b5 : ((hh.toNat : Nat) : Int) = hh := by omega
    rcases hl with ⟨rfl, rfl⟩ | ⟨k, rfl⟩ <;> rcases hh' with ⟨rfl, rfl⟩ | ⟨k', rfl⟩
    · simp [Instr.sliceAt, Instr.slice, run_underlying ht, Instr.sliceBounds, run_sizeOf hi]
    · simp [Instr.sliceAt, Instr.slice, run_underlying ht, Instr.sliceBounds, run_sizeOf hi, Instr.sliceBound, asIntOf, b2, b3]
    · have b6 : l ≤ (n : Int) := h1
      simp [Instr.sliceAt, Instr.slice, run_underlying ht, Instr.sliceBounds, run_sizeOf hi, Instr.sliceBound, asIntOf, b6, h0]
    · simp [Instr.sliceAt, Instr.slice, run_underlying ht, Instr.sliceBounds, run_sizeOf hi, Instr.sliceBound, asIntOf, b2, b3, h0, b5, h1]
  have lval : ∀ {l : Int}, loOf lo = some l → (lv = none ∧ l = 0 ∨ ∃ k, lv = some (.int k l)) := by
    intro l hl
    rcases hlo with ⟨rfl, rfl⟩ | ⟨dl, vl, rfl, rfl, hr⟩
    · simp only [loOf, Option.some.injEq] at hl; exact .inl ⟨rfl, hl.symm⟩
    · obtain ⟨k, rfl⟩ := intOf_rel hr hl; exact .inr ⟨k, rfl⟩
  have hval : ∀ {n : Int} {l : Int}, hiOf n hi' = some l → (hv = none ∧ l = n ∨ ∃ k, hv = some (.int k l)) := by
    intro n l hl
    rcases hhi with ⟨rfl, rfl⟩ | ⟨dl, vl, rfl, rfl, hr⟩
    · simp only [hiOf, Option.some.injEq] at hl; exact .inl ⟨rfl, hl.symm⟩
    · obtain ⟨k, rfl⟩ := intOf_rel hr hl; exact .inr ⟨k, rfl⟩
  cases d with
  | v t' =>
    cases t' with
    | sl rows =>
      simp only [sliceSem] at hok ⊢
      cases el : loOf lo with
      | none => simp [el, bad] at hok
      | some l =>
        cases eh : hiOf rows.length hi' with
        | none => simp [el, eh, bad] at hok
        | some hh =>
          simp only [el, eh] at hok ⊢
          obtain ⟨h0, h1, h2, hsz⟩ := hok
          refine ⟨trivial, ?_⟩
          simp only [RelD, RelT] at h
          have hlen : ((rows.take hh.toNat).drop l.toNat).length = hh.toNat - l.toNat := by simp; omega
          rcases h with ⟨rfl, p, c, rfl⟩ | ⟨b, oo, cap, sz, rfl, hb, hn, hc, hr⟩
          · have z1 : hh = 0 := by simp at h2; omega
            have z2 : l = 0 := by omega
            subst z1 z2
            refine ⟨_, hrun p 0 c 0 0 h0 h1 (by omega) (by omega) (lval el) (hval eh), ?_⟩
            simp only [RelD, RelT]
            exact .inl ⟨by simp, _, _, rfl⟩
          · refine ⟨_, hrun _ _ cap l hh h0 h1 h2 hc (lval el) (hval eh), ?_⟩
            simp only [RelD, RelT]
            by_cases hce : cap = l.toNat
            · refine .inl ⟨?_, _, _, by rw [show hh.toNat - l.toNat = 0 by omega]⟩
              apply List.eq_nil_of_length_eq_zero
              omega
            · refine .inr ⟨b, oo + l.toNat * i.size, cap - l.toNat, i.size, ?_, hb, hn, by omega, ?_⟩
              · rw [hlen, if_neg hce]
                simp [add_off]
              · refine RelRows.of_rows _ _ fun j r hj => ?_
                rw [List.getElem?_drop, List.getElem?_take] at hj
                split at hj
                · have hrow := RelRows.row hr hj
                  have hrl := hsz r (List.mem_of_getElem? hj)
                  have : sz = i.size := by omega
                  subst this
                  refine ⟨hrl, ?_⟩
                  have e2 : oo + l.toNat * i.size + j * i.size = oo + (l.toNat + j) * i.size := by rw [Nat.add_mul]; omega
                  rw [e2]
                  exact hrow.2
                · cases hj
    | _ => exact hok.elim
  | nil0 =>
    simp only [sliceSem] at hok ⊢
    cases el : loOf lo with
    | none => simp [el, bad] at hok
    | some l =>
      cases eh : hiOf 0 hi' with
      | none => simp [el, eh, bad] at hok
      | some hh =>
        simp only [el, eh] at hok ⊢
        obtain ⟨rfl, rfl⟩ := hok
        refine ⟨trivial, ?_⟩
        simp only [RelD] at h
        obtain ⟨p, rfl⟩ := h
        refine ⟨_, hrun p 0 0 0 0 (Int.le_refl _) (Int.le_refl _) (by omega) (Nat.le_refl _) (lval el) (hval eh), ?_⟩
        simp [RelD]
  | aref r ver =>
    simp only [sliceSem] at hok ⊢
    cases hc : objs r with
    | none => simp [hc, bad] at hok
    | some ob =>
      cases ob with
      | arr ver' e' sz' rows =>
        simp only [hc] at hok ⊢
        cases el : loOf lo with
        | none => simp [el, bad] at hok
        | some l =>
          cases eh : hiOf rows.length hi' with
          | none => simp [el, eh, bad] at hok
          | some hh =>
            simp only [el, eh] at hok ⊢
            obtain ⟨rfl, rfl, h0, h1, h2⟩ := hok
            refine ⟨trivial, ?_⟩
            simp only [RelD] at h
            obtain ⟨_, ver2, e2, sz2, rows2, ho2, _, hv2⟩ := h
            rw [hc] at ho2
            cases ho2
            have hv2 := hv2 rfl
            subst hv2
            obtain ⟨_, _, _, hal⟩ := hO.ob r _ hc
            have hsl : ∃ p cap, L.sl r = .slice p rows.length cap ∧ rows.length ≤ cap := by
              rcases hal with ⟨rfl, a, ha⟩ | ⟨g, cap, cur, k1, k2, k3, k4, _⟩
              · exact ⟨a, 0, ha, Nat.le_refl _⟩
              · exact ⟨_, cap, k1, k4⟩
            obtain ⟨p, cap, hsl, hcap⟩ := hsl
            refine ⟨_, by rw [hsl]; exact hrun p rows.length cap l hh h0 h1 h2 hcap (lval el) (hval eh), ?_⟩
            simp only [RelD]
            exact ⟨⟨_, _, rfl⟩, ver, e', _, rows, hc, Nat.le_refl _, fun _ => ⟨by omega, p, cap, _, hsl, rfl, fun hlt => by rw [if_neg (by omega)]⟩⟩
      | _ => simp [hc, bad] at hok
  | asl r ver lo0 n =>
    simp only [sliceSem] at hok ⊢
    cases hc : objs r with
    | none => simp [hc, bad] at hok
    | some ob =>
      cases ob with
      | arr ver' e' sz' rows =>
        simp only [hc] at hok ⊢
        cases el : loOf lo with
        | none => simp [el, bad] at hok
        | some l =>
          cases eh : hiOf n hi' with
          | none => simp [el, eh, bad] at hok
          | some hh =>
            simp only [el, eh] at hok ⊢
            obtain ⟨rfl, rfl, h0, h1, h2⟩ := hok
            refine ⟨trivial, ?_⟩
            simp only [RelD] at h
            obtain ⟨_, ver2, e2, sz2, rows2, ho2, _, hv2⟩ := h
            rw [hc] at ho2
            cases ho2
            obtain ⟨hln, p, cap, p2, hsl, rfl, hp2⟩ := hv2 rfl
            obtain ⟨_, _, _, hal⟩ := hO.ob r _ hc
            have hcap : rows.length ≤ cap ∧ ∀ q, p = some q → 0 < cap → ∃ g, q = ⟨g, 0, none⟩ := by
              rcases hal with ⟨rfl, a, ha⟩ | ⟨g, cap', cur, k1, k2, k3, k4, _⟩
              · exact ⟨by simp, fun q hq hc0 => by rw [hsl] at ha; cases ha; omega⟩
              · rw [hsl] at k1
                cases k1
                exact ⟨k4, fun q hq _ => ⟨g, by simpa using hq.symm⟩⟩
            refine ⟨_, hrun p2 n (cap - lo0) l hh h0 h1 h2 (by omega) (lval el) (hval eh), ?_⟩
            simp only [RelD]
            refine ⟨⟨_, _, rfl⟩, ver, e', _, rows, hc, Nat.le_refl _, fun _ => ⟨by omega, p, cap, _, hsl, by rw [Nat.sub_sub], fun hlt => ?_⟩⟩
            rw [if_neg (by omega), hp2 (by omega)]
            cases p with
            | none => rfl
            | some q =>
              obtain ⟨g, rfl⟩ := hcap.2 q rfl (by omega)
              simp [add_off, Nat.add_mul]
      | _ => simp [hc, bad] at hok
  | _ => exact hok.elim
end
end Go.DM
/- The D-machine, part Y: maps, and the iterators over them; each operation does in the model what the machine says. Conditions: none. -/
namespace Go.DM
open Go.RowKit
set_option linter.unusedSimpArgs false
set_option linter.unusedVariables false
set_option linter.unusedSectionVars false
variable [Laid]
section
variable {P : Program} {base : Nat} {W M : Nat → Prop} {w0 : World} {objs : Obs} {L : Loc} {w : World} {a : Act} {o : Oper}

theorem fits_of_fitsT {W' : Nat → Prop} : ∀ {shs : List Sh} {ts : List T} {vs : List Value}, fitsT shs ts → RelL w W' ts vs → fits shs vs
  | [], ts, vs, h, hr => by
    simp only [fitsT] at h
    subst h
    simpa [RelL, fits] using hr
  | s :: ss, [], vs, h, _ => by simp [fitsT] at h
  | s :: ss, t :: ts, vs, h, hr => by
    simp only [fitsT] at h
    simp only [RelL] at hr
    obtain ⟨v, vs', rfl, _, h2, hr⟩ := hr
    simp only [fits]
    refine ⟨v, vs', rfl, ?_, fits_of_fitsT h.2 hr⟩
    have h1 := h.1
    cases s <;> cases t <;> first | exact absurd h1 Bool.false_ne_true | skip
    all_goals (simp only [RelT] at h2; subst h2; first | rfl | exact h1)

theorem eqT_leaf {W' : Nat → Prop} {s : Sh} {t u : T} {x y : Value} (ht : shOk s t = true) (hu : shOk s u = true) (hx : RelT w W' t x) (hy : RelT w W' u y) : eqTB t u = veq x y := by
  cases s <;> cases t <;> (first | exact absurd ht Bool.false_ne_true | skip) <;> cases u <;> (first | exact absurd hu Bool.false_ne_true | skip)
  all_goals (simp only [RelT] at hx hy; subst hx hy; simp only [eqTB, veq])
  · rfl
  · rename_i s1 s2
    by_cases h : s1 = s2
    · subst h; simp
    · have hne : s1.toList ≠ s2.toList := fun e => h (by
        rw [ByteArray.toList_eq, ByteArray.toList_eq] at e
        obtain ⟨d1⟩ := s1
        obtain ⟨d2⟩ := s2
        exact congrArg ByteArray.mk (Array.ext' e))
      simp [h, hne]

theorem eqTs_leaf {W' : Nat → Prop} : ∀ {shs : List Sh} {ts us : List T} {xs ys : List Value}, fitsT shs ts → fitsT shs us → RelL w W' ts xs → RelL w W' us ys → eqTBs ts us = veqs xs ys
  | [], ts, us, xs, ys, h1, h2, hx, hy => by
    simp only [fitsT] at h1 h2
    subst h1 h2
    simp only [RelL] at hx hy
    subst hx hy
    rfl
  | s :: ss, [], _, _, _, h, _, _, _ => by simp [fitsT] at h
  | s :: ss, _ :: _, [], _, _, _, h, _, _ => by simp [fitsT] at h
  | s :: ss, t :: ts, u :: us, xs, ys, h1, h2, hx, hy => by
    simp only [fitsT] at h1 h2
    simp only [RelL] at hx hy
    obtain ⟨x, xs', rfl, _, hx1, hx⟩ := hx
    obtain ⟨y, ys', rfl, _, hy1, hy⟩ := hy
    simp only [eqTBs, veqs]
    rw [eqT_leaf h1.1 h2.1 hx1 hy1, eqTs_leaf h1.2 h2.2 hx hy]

theorem fitsT_one {shs : List Sh} {t : T} (h : fitsT shs [t]) : ∃ s, shs = [s] ∧ shOk s t = true := by
  cases shs with
  | nil => simp [fitsT] at h
  | cons s ss =>
    simp only [fitsT] at h
    cases ss with
    | nil => exact ⟨s, rfl, h.1⟩
    | cons s2 ss => simp [fitsT] at h


theorem check_fields {em : Bool} {d : Nat} (ih : ∀ (t : TypeId) (shs : List Sh) (desc : TypeDesc), shOf P d t = some shs → P.underlying t = some desc → ∀ (xs : List Value) (w : World), fits shs xs → (Instr.checkKey em d t (mkV desc xs)).run P w = .ok () w)
    (hdesc : ∀ (t : TypeId) (shs : List Sh), shOf P d t = some shs → ∃ desc, P.underlying t = some desc ∧ (aggDesc desc = true ∨ shs.length = 1)) (xs : List Value) :
    ∀ (fs : List Field) (off : Nat) (shs : List Sh) (w : World), shFieldsOf P (shOf P d) off fs = some shs → fits shs (xs.drop off) → off ≤ xs.length →
      (forIn fs PUnit.unit (fun f (_ : PUnit) =>
            if f.name ≠ "_" then do
              let x ← part f.type xs.toArray f.offset
              Instr.checkKey em d f.type x
              pure (ForInStep.yield PUnit.unit)
            else pure (ForInStep.yield PUnit.unit)) : Sem PUnit).run P w = .ok PUnit.unit w
  | [], off, shs, w, h, hx, _ => by simp
  | f :: fs, off, shs, w, h, hx, hox => by
    simp only [shFieldsOf] at h
    split at h
    · rename_i s i hs hi
      split at h
      · rename_i hc
        obtain ⟨hn, rfl, hsz⟩ := hc
        simp only [Option.map_eq_some_iff] at h
        obtain ⟨rest, hrest, rfl⟩ := h
        obtain ⟨desc, hd, h1⟩ := hdesc _ _ hs
        have hxl := fits.length hx
        simp only [List.length_append, List.length_drop] at hxl
        obtain ⟨hx1, hx2⟩ := fits.split hx
        rw [List.drop_drop] at hx2
        rw [hsz] at h1
        have p1 := fun w => run_part (P := P) w hd hi (xs := xs) (off := f.offset) h1 (by omega)
        have hr := ih _ _ _ hs hd _ w hx1
        rw [hsz] at hr
        simp only [List.forIn_cons, hn, ne_eq, not_false_eq_true, if_true, Sem.run_bind, p1, Result.andThen_ok, hr, Sem.run_pure]
        exact check_fields ih hdesc xs fs _ rest w hrest hx2 (by omega)
      · cases h
    · cases h

theorem check_arr {em : Bool} {d : Nat} {e : TypeId} {de : TypeDesc} {s : List Sh} {i : TypeInfo} (hd : P.underlying e = some de) (hi : P.info? e = some i) (h1 : aggDesc de = true ∨ i.size = 1) (hs : s.length = i.size)
    (ih : ∀ (xs : List Value) (w : World), fits s xs → (Instr.checkKey em d e (mkV de xs)).run P w = .ok () w) (xs : List Value) :
    ∀ (n k : Nat) (w : World), fits ((List.replicate n s).flatten) (xs.drop (k * i.size)) →
      (forIn (List.range' k n) PUnit.unit (fun j (_ : PUnit) => do
            let sz ← sizeOf e
            let x ← part e xs.toArray (j * sz)
            Instr.checkKey em d e x
            pure (ForInStep.yield PUnit.unit)) : Sem PUnit).run P w = .ok PUnit.unit w
  | 0, k, w, hx => by simp
  | n + 1, k, w, hx => by
    simp only [List.replicate_succ, List.flatten_cons] at hx
    have hxl := fits.length hx
    simp only [List.length_append, List.length_drop] at hxl
    obtain ⟨hx1, hx2⟩ := fits.split hx
    have e2 : k * i.size + s.length = (k + 1) * i.size := by rw [Nat.add_mul, hs]; omega
    rw [List.drop_drop, e2] at hx2
    by_cases hz : i.size = 0
    · have hsz : ∀ (w : World), k * i.size + i.size ≤ xs.length ∨ xs.length < k * i.size := fun _ => by omega
      have h1' := h1.elim id (fun h => by omega)
      have p1 := fun w => run_part (P := P) w hd hi (xs := xs) (off := k * i.size) h1 (by rw [hz]; simp)
      rw [hs] at hx1
      have hr := ih _ w hx1
      simp only [List.range'_succ, List.forIn_cons, Sem.run_bind, run_sizeOf hi, p1, Result.andThen_ok, hr, Sem.run_pure]
      exact check_arr hd hi h1 hs ih xs n (k + 1) w hx2
    · have p1 := fun w => run_part (P := P) w hd hi (xs := xs) (off := k * i.size) h1 (by omega)
      rw [hs] at hx1
      have hr := ih _ w hx1
      simp only [List.range'_succ, List.forIn_cons, Sem.run_bind, run_sizeOf hi, p1, Result.andThen_ok, hr, Sem.run_pure]
      exact check_arr hd hi h1 hs ih xs n (k + 1) w hx2

theorem run_check (em : Bool) : ∀ (d : Nat) (t : TypeId) (shs : List Sh) (desc : TypeDesc), shOf P d t = some shs → P.underlying t = some desc → ∀ (xs : List Value) (w : World), fits shs xs → (Instr.checkKey em d t (mkV desc xs)).run P w = .ok () w
  | 0, t, shs, desc, h, _, _, _, _ => by simp [shOf] at h
  | d + 1, t, shs, desc, h, hu, xs, w, hx => by
    simp only [shOf, hu] at h
    cases desc
    case bool => simp [mkV, aggDesc, Instr.checkKey, run_underlying hu]
    case int k => simp [mkV, aggDesc, Instr.checkKey, run_underlying hu]
    case string => simp [mkV, aggDesc, Instr.checkKey, run_underlying hu]
    case struct fs =>
      replace h : (if P.stoodInHeld t then none else shFieldsOf P (shOf P d) 0 fs.toList) = some shs := h
      split at h
      · cases h
      · have := check_fields (em := em) (fun t shs desc => run_check em d t shs desc) (fun t shs hs => by
          cases d with
          | zero => simp [shOf] at hs
          | succ d => exact sh_desc hs) xs fs.toList 0 shs w h (by simpa using hx) (by omega)
        simp only [mkV, aggDesc, if_true]
        rw [Instr.checkKey]
        simp only [Sem.run_bind, run_underlying hu, Result.andThen_ok]
        rw [← Array.forIn_toList]
        refine (congrArg (fun r => Result.andThen r _) this).trans ?_
        rfl
    case array n e =>
      replace h : (match shOf P d e, P.info? e with
        | some s, some i => if s.length = i.size ∧ 0 < i.size then some ((List.replicate n s).flatten) else none
        | _, _ => none) = some shs := h
      split at h
      · rename_i s i hs hi
        split at h
        · rename_i hc
          simp only [Option.some.injEq] at h
          subst h
          have hde : ∃ desc, P.underlying e = some desc ∧ (aggDesc desc = true ∨ s.length = 1) := by
            cases d with
            | zero => simp [shOf] at hs
            | succ d => exact sh_desc hs
          obtain ⟨de, hd, h1⟩ := hde
          rw [hc.1] at h1
          have := check_arr hd hi h1 hc.1 (fun xs w => run_check em d e s de hs hd xs w) xs n 0 w (by simpa using hx)
          simp only [mkV, aggDesc, if_true]
          rw [Instr.checkKey]
          simp only [Sem.run_bind, run_underlying hu, Result.andThen_ok, Std.Legacy.Range.forIn_eq_forIn_range', Std.Legacy.Range.size, Nat.sub_zero, Nat.add_sub_cancel, Nat.div_one]
          refine (congrArg (fun r => Result.andThen r _) this).trans ?_
          rfl
        · cases h
      · cases h
    all_goals exact absurd h (by simp)

/-- The cells of a key. -/
def cellsT : T → List T
  | .agg as => as
  | t => [t]
theorem keyOk_fits {shs : List Sh} {agg : Bool} {t : T} (h : keyOk shs agg t) : fitsT shs (cellsT t) := by
  cases t <;> simp only [keyOk] at h <;> exact h.2
theorem keyOk_val {W' : Nat → Prop} {shs : List Sh} {desc : TypeDesc} {t : T} {x : Value} (h : keyOk shs (aggDesc desc) t) (hr : RelT w W' t x) : ∃ vs, x = mkV desc vs ∧ RelL w W' (cellsT t) vs := by
  cases t with
  | agg as =>
    simp only [keyOk] at h
    simp only [RelT] at hr
    obtain ⟨vs, rfl, hr⟩ := hr
    exact ⟨vs.toList, by simp [mkV, h.1], hr⟩
  | _ =>
    simp only [keyOk] at h
    refine ⟨[x], by simp [mkV, h.1], ?_⟩
    simp only [cellsT, RelL]
    obtain ⟨s, rfl, hs⟩ := fitsT_one h.2
    refine ⟨x, [], rfl, ?_, hr, rfl⟩
    cases s <;> first | exact absurd hs Bool.false_ne_true | (simp only [RelT] at hr; subst hr; rfl)
theorem eqTB_cells {shs : List Sh} {agg : Bool} {t u : T} (h : keyOk shs agg t) (k : keyOk shs agg u) : eqTB t u = eqTBs (cellsT t) (cellsT u) := by
  cases t with
  | agg as =>
    cases u with
    | agg bs => rfl
    | _ => simp only [keyOk] at h k; rw [h.1] at k; exact absurd k.1 (by simp)
  | _ =>
    cases u with
    | agg bs => simp only [keyOk] at h k; rw [k.1] at h; exact absurd h.1 (by simp)
    | _ => simp [cellsT, eqTBs]

theorem leaf_inj {s : Sh} {t u : T} (ht : shOk s t = true) (hu : shOk s u = true) (h : eqTB t u = true) : t = u := by
  cases s <;> cases t <;> (first | exact absurd ht Bool.false_ne_true | skip) <;> cases u <;> (first | exact absurd hu Bool.false_ne_true | skip)
  · simp only [eqTB, beq_iff_eq] at h; rw [h]
  · simp only [shOk, beq_iff_eq] at ht hu
    simp only [eqTB, decide_eq_true_eq] at h
    subst ht hu h
    rfl
  · simp only [eqTB, decide_eq_true_eq] at h
    rw [h]
theorem leafs_inj : ∀ {shs : List Sh} {ts us : List T}, fitsT shs ts → fitsT shs us → eqTBs ts us = true → ts = us
  | [], ts, us, h1, h2, _ => by simp only [fitsT] at h1 h2; rw [h1, h2]
  | s :: ss, [], _, h, _, _ => by simp [fitsT] at h
  | s :: ss, _ :: _, [], _, h, _ => by simp [fitsT] at h
  | s :: ss, t :: ts, u :: us, h1, h2, h => by
    simp only [fitsT] at h1 h2
    simp only [eqTBs, Bool.and_eq_true] at h
    rw [leaf_inj h1.1 h2.1 h.1, leafs_inj h1.2 h2.2 h.2]
theorem key_inj {shs : List Sh} {agg : Bool} {t u : T} (h : keyOk shs agg t) (k : keyOk shs agg u) (e : eqTB t u = true) : t = u := by
  have h1 := keyOk_fits h
  have k1 := keyOk_fits k
  rw [eqTB_cells h k] at e
  have := leafs_inj h1 k1 e
  cases t with
  | agg as =>
    cases u with
    | agg bs => simpa [cellsT] using this
    | _ => simp only [keyOk] at h k; rw [h.1] at k; exact absurd k.1 (by simp)
  | _ =>
    cases u with
    | agg bs => simp only [keyOk] at h k; rw [k.1] at h; exact absurd h.1 (by simp)
    | _ => exact (List.cons.inj this).1

theorem run_eqKey {k : TypeId} {shs : List Sh} {agg : Bool} (hk : keyInfo P k = some (shs, agg)) {t u : T} {x y : Value} {W' : Nat → Prop} (ht : keyOk shs agg t) (hu : keyOk shs agg u) (hx : RelT w W' t x) (hy : RelT w W' u y) :
    (Op.equal k x y).run P w = .ok (eqTB t u) w := by
  unfold keyInfo at hk
  split at hk
  · rename_i d s hd hs
    simp only [Option.some.injEq, Prod.mk.injEq] at hk
    obtain ⟨rfl, rfl⟩ := hk
    obtain ⟨vs, rfl, h1⟩ := keyOk_val ht hx
    obtain ⟨us, rfl, h2⟩ := keyOk_val hu hy
    rw [eqTB_cells ht hu, eqTs_leaf (keyOk_fits ht) (keyOk_fits hu) h1 h2]
    exact equalIn_sh 10000 k s d hs hd vs us w (fits_of_fitsT (keyOk_fits ht) h1) (fits_of_fitsT (keyOk_fits hu) h2)
  · cases hk
theorem run_checkK {k : TypeId} {shs : List Sh} {agg : Bool} (hk : keyInfo P k = some (shs, agg)) {t : T} {x : Value} {W' : Nat → Prop} (ht : keyOk shs agg t) (hx : RelT w W' t x) (em : Bool) :
    (Instr.checkKey em 10000 k x).run P w = .ok () w := by
  unfold keyInfo at hk
  split at hk
  · rename_i d s hd hs
    simp only [Option.some.injEq, Prod.mk.injEq] at hk
    obtain ⟨rfl, rfl⟩ := hk
    obtain ⟨vs, rfl, h1⟩ := keyOk_val ht hx
    exact run_check em 10000 k s d hs hd vs w (fits_of_fitsT (keyOk_fits ht) h1)
  · cases hk

theorem leaf_of {W' : Nat → Prop} {shs : List Sh} {agg : Bool} {t : T} {v : Value} (hk : keyOk shs agg t) (hr : RelT w W' t v) :
    (∀ k a, v = .int k a → t = .int k a) ∧ (∀ s, v = .string s → t = .str s) ∧ (∀ b, v = .bool b → t = .bool b) := by
  have bad : ∀ {x : T}, fitsT shs [x] → (∀ s, shOk s x = false) → False := fun h1 h2 => by
    obtain ⟨s, _, hs⟩ := fitsT_one h1
    rw [h2] at hs; cases hs
  cases t with
  | agg as => simp only [RelT] at hr; obtain ⟨_, rfl, _⟩ := hr; exact ⟨fun _ _ e => (by cases e), fun _ e => (by cases e), fun _ e => (by cases e)⟩
  | int k a => simp only [RelT] at hr; subst hr; exact ⟨fun _ _ e => (by cases e; rfl), fun _ e => (by cases e), fun _ e => (by cases e)⟩
  | str a => simp only [RelT] at hr; subst hr; exact ⟨fun _ _ e => (by cases e), fun _ e => (by cases e; rfl), fun _ e => (by cases e)⟩
  | bool a => simp only [RelT] at hr; subst hr; exact ⟨fun _ _ e => (by cases e), fun _ e => (by cases e), fun _ e => (by cases e; rfl)⟩
  | _ => exact (bad hk.2 (fun s => by cases s <;> rfl)).elim

/-- What a look for a key finds. -/
def foundAt (t : T) (es : List (Nat × T × DV)) (xs : List MapEntry) (i : Nat) : Option (Nat × Value) :=
  match es.findIdx? fun e => eqTB t e.2.1 with
  | some j => (xs[j]?).map fun e => (i + j, e.val)
  | none => none

theorem foundAt_cons (t : T) (e : Nat × T × DV) (es : List (Nat × T × DV)) (x : MapEntry) (xs : List MapEntry) (i : Nat) : foundAt t (e :: es) (x :: xs) i = if eqTB t e.2.1 then some (i, x.val) else foundAt t es xs (i + 1) := by
  simp only [foundAt, List.findIdx?_cons]
  by_cases h : eqTB t e.2.1 = true
  · simp [h]
  · simp only [h, if_false]
    cases List.findIdx? (fun e => eqTB t e.2.1) es with
    | none => simp
    | some j => simp [show i + 1 + j = i + (j + 1) by omega]

theorem run_findAsk {k : TypeId} {shs : List Sh} {agg : Bool} (hk : keyInfo P k = some (shs, agg)) {t : T} {x : Value} (ht : keyOk shs agg t) (hx : RelT w (WW W objs L) t x) : ∀ (es : List (Nat × T × DV)) (xs : List MapEntry) (i : Nat), RelEs w W objs L es xs → (∀ e ∈ es, keyOk shs agg e.2.1) →
    (Instr.findAsking k x xs i).run P w = .ok (foundAt t es xs i) w
  | [], xs, i, h, _ => by simp only [RelEs] at h; subst h; simp [Instr.findAsking, foundAt]
  | e :: es, xs, i, h, hall => by
    simp only [RelEs] at h
    obtain ⟨y, ys, rfl, _, h2, _, h4⟩ := h
    have := run_eqKey hk ht (hall e (by simp)) hx h2
    rw [foundAt_cons]
    simp only [Instr.findAsking, Sem.run_bind, this, Result.andThen_ok]
    cases eqTB t e.2.1
    · simpa using run_findAsk hk ht hx es ys (i + 1) h4 fun e he => hall e (by simp [he])
    · simp

theorem run_findNow {k : TypeId} {shs : List Sh} {d : TypeDesc} (hd : P.underlying k = some d) (hs : shOf P 10000 k = some shs) {t : T} {x : Value} (ht : keyOk shs (aggDesc d) t) (hx : RelT w (WW W objs L) t x) : ∀ (es : List (Nat × T × DV)) (xs : List MapEntry) (i : Nat), RelEs w W objs L es xs → (∀ e ∈ es, keyOk shs (aggDesc d) e.2.1) →
    Instr.findNow d x xs i = some (foundAt t es xs i) ∨ Instr.findNow d x xs i = none
  | [], xs, i, h, _ => by simp only [RelEs] at h; subst h; simp [Instr.findNow, foundAt]
  | e :: es, xs, i, h, hall => by
    simp only [RelEs] at h
    obtain ⟨y, ys, rfl, _, h2, _, h4⟩ := h
    rw [foundAt_cons]
    simp only [Instr.findNow]
    cases hsn : Instr.sameNow d x y.key with
    | none => right; rfl
    | some r =>
      have hr : r = eqTB t e.2.1 := by
        have lx := leaf_of ht hx
        have ly := leaf_of (hall e (by simp)) h2
        unfold Instr.sameNow at hsn
        split at hsn
        · rename_i k1 a1 k2 a2 e2
          split at hsn
          · rename_i hkk
            subst hkk
            simp only [Option.some.injEq] at hsn
            rw [lx.1 _ _ rfl, ly.1 _ _ e2, ← hsn]
            simp only [eqTB]
            by_cases h : a1 = a2 <;> simp [h]
          · cases hsn
        · rename_i a1 a2 e2
          simp only [Option.some.injEq] at hsn
          rw [lx.2.1 _ rfl, ly.2.1 _ e2, ← hsn]
          simp only [eqTB]
          by_cases h : a1 = a2
          · subst h
            obtain ⟨x⟩ := a1
            simp only [decide_true]
            exact (show (x == x) = true by simp)
          · simp only [h, decide_false]
            cases hb : a1 == a2 with
            | false => rfl
            | true => exact absurd (by
                obtain ⟨x⟩ := a1
                obtain ⟨y⟩ := a2
                have e : x = y := by simpa using (show (x == y) = true from hb)
                rw [e]) h
        · rename_i a1 a2 e2
          simp only [Option.some.injEq] at hsn
          rw [lx.2.2 _ rfl, ly.2.2 _ e2, ← hsn]
          rfl
        · cases hsn
      subst hr
      cases eqTB t e.2.1
      · exact run_findNow hd hs ht hx es ys (i + 1) h4 fun e he => hall e (by simp [he])
      · simp

theorem run_findK {k : TypeId} {shs : List Sh} {agg : Bool} (hk : keyInfo P k = some (shs, agg)) {t : T} {x : Value} (ht : keyOk shs agg t) (hx : RelT w (WW W objs L) t x) {es : List (Nat × T × DV)} {xs : List MapEntry} (h : RelEs w W objs L es xs) (hall : ∀ e ∈ es, keyOk shs agg e.2.1) :
    (Instr.findKey k x xs).run P w = .ok (foundAt t es xs 0) w := by
  have ha := run_findAsk hk ht hx es xs 0 h hall
  unfold keyInfo at hk
  split at hk
  · rename_i d s hd hs
    simp only [Option.some.injEq, Prod.mk.injEq] at hk
    obtain ⟨rfl, rfl⟩ := hk
    unfold Instr.findKey
    simp only [Sem.run_bind, run_underlying hd, Result.andThen_ok]
    rcases run_findNow hd hs ht hx es xs 0 h hall with h1 | h1
    · rw [h1]; simp
    · rw [h1]; exact ha
  · cases hk

/-! ### The entries -/
theorem RelEs.length : ∀ {es : List (Nat × T × DV)} {xs : List MapEntry}, RelEs w W objs L es xs → xs.length = es.length
  | [], _, h => by simp only [RelEs] at h; simp [h]
  | e :: es, _, h => by
    simp only [RelEs] at h
    obtain ⟨x, xs', rfl, _, _, _, h4⟩ := h
    simp [RelEs.length h4]
theorem RelEs.get : ∀ {es : List (Nat × T × DV)} {xs : List MapEntry} {i : Nat} {e : Nat × T × DV}, RelEs w W objs L es xs → es[i]? = some e → ∃ x, xs[i]? = some x ∧ x.born = e.1 ∧ RelT w (WW W objs L) e.2.1 x.key ∧ RelD w W objs L e.2.2 x.val
  | [], _, _, _, _, h => by simp at h
  | e :: es, _, 0, _, hr, h => by
    simp only [RelEs] at hr
    obtain ⟨x, xs', rfl, h1, h2, h3, _⟩ := hr
    simp only [List.getElem?_cons_zero, Option.some.injEq] at h
    subst h
    exact ⟨x, rfl, h1, h2, h3⟩
  | e :: es, _, i + 1, _, hr, h => by
    simp only [RelEs] at hr
    obtain ⟨x, xs', rfl, _, _, _, h4⟩ := hr
    simpa using RelEs.get h4 (by simpa using h)
theorem RelEs.append : ∀ {es es' : List (Nat × T × DV)} {xs xs' : List MapEntry}, RelEs w W objs L es xs → RelEs w W objs L es' xs' → RelEs w W objs L (es ++ es') (xs ++ xs')
  | [], _, _, _, h, k => by simp only [RelEs] at h; subst h; simpa using k
  | e :: es, _, _, _, h, k => by
    simp only [RelEs] at h
    obtain ⟨x, xs1, rfl, h1, h2, h3, h4⟩ := h
    simp only [List.cons_append, RelEs]
    exact ⟨x, _, rfl, h1, h2, h3, RelEs.append h4 k⟩
theorem RelEs.modify {y : DV} {v : Value} (hy : RelD w W objs L y v) : ∀ {es : List (Nat × T × DV)} {xs : List MapEntry} (i : Nat), RelEs w W objs L es xs → RelEs w W objs L (es.modify i fun e => (e.1, e.2.1, y)) (xs.modify i fun e => { e with val := v })
  | [], _, i, h => by simp only [RelEs] at h; subst h; simp [RelEs]
  | e :: es, _, 0, h => by
    simp only [RelEs] at h
    obtain ⟨x, xs1, rfl, h1, h2, h3, h4⟩ := h
    simp only [List.modify_zero_cons, RelEs]
    exact ⟨_, _, rfl, h1, h2, hy, h4⟩
  | e :: es, _, i + 1, h => by
    simp only [RelEs] at h
    obtain ⟨x, xs1, rfl, h1, h2, h3, h4⟩ := h
    simp only [List.modify_succ_cons, RelEs]
    exact ⟨_, _, rfl, h1, h2, h3, RelEs.modify hy i h4⟩
theorem RelEs.erase : ∀ {es : List (Nat × T × DV)} {xs : List MapEntry} (i : Nat), RelEs w W objs L es xs → RelEs w W objs L (es.eraseIdx i) (xs.eraseIdx i)
  | [], _, i, h => by simp only [RelEs] at h; subst h; simp [RelEs]
  | e :: es, _, 0, h => by
    simp only [RelEs] at h
    obtain ⟨x, xs1, rfl, h1, h2, h3, h4⟩ := h
    simpa using h4
  | e :: es, _, i + 1, h => by
    simp only [RelEs] at h
    obtain ⟨x, xs1, rfl, h1, h2, h3, h4⟩ := h
    simp only [List.eraseIdx_cons_succ, RelEs]
    exact ⟨_, _, rfl, h1, h2, h3, RelEs.erase i h4⟩

theorem keyT_rel {d : DV} {x : Value} {t : T} (h : RelD w W objs L d x) (hk : keyT d = some t) : RelT w (WW W objs L) t x := by
  cases d with
  | v t' => simp only [keyT, Option.some.injEq] at hk; subst hk; simpa only [RelD] using h
  | agg cs =>
    simp only [keyT, Option.map_eq_some_iff] at hk
    obtain ⟨ts, hts, rfl⟩ := hk
    simp only [RelD] at h
    obtain ⟨vs, rfl, hr⟩ := h
    simp only [RelT]
    refine ⟨vs, rfl, ?_⟩
    have key : ∀ (cs : List DV) (ts : List T) (vs : List Value), allV cs = some ts → RelDs w W objs L cs vs → RelL w (WW W objs L) ts vs := by
      intro cs
      induction cs with
      | nil => intro ts vs h1 h2; simp only [allV, Option.some.injEq] at h1; subst h1; simpa [RelDs, RelL] using h2
      | cons c cs ih =>
        intro ts vs h1 h2
        cases c with
        | v u =>
          simp only [allV, Option.map_eq_some_iff] at h1
          obtain ⟨us, hus, rfl⟩ := h1
          simp only [RelDs] at h2
          obtain ⟨y, ys, rfl, k1, k2, k3⟩ := h2
          simp only [RelL]
          exact ⟨y, ys, rfl, k1, by simpa only [RelD] using k2, ih us ys hus k3⟩
        | _ => simp [allV] at h1
    exact key cs ts _ hts hr
  | _ => simp [keyT] at hk

def Obj.noRow : Obj → Prop
  | .cells _ _ _ => False
  | _ => True
theorem ba_beq (s : ByteArray) : (s == s) = true := by
  obtain ⟨x⟩ := s
  exact (show (x == x) = true by simp)
theorem getObj_run {b : Nat} {x : Obj} (h : w.heap[b]? = some x) (hx : Obj.noRow x) : (getObj b).run P w = .ok x w := by
  cases x <;> first | exact hx.elim | simp [getObj, Sem.run, h]
def _root_.Go.World.setObj' (w : World) (b : Nat) (x : Obj) : World := { w with heap := w.heap.setIfInBounds b x }
theorem setObj_run {b : Nat} {x y : Obj} (h : w.heap[b]? = some x) (hx : Obj.noRow x) : (setObj b y).run P w = .ok () (w.setObj' b y) := by
  cases x <;> first | exact hx.elim | simp [setObj, Sem.run, h, World.setObj']
theorem setObj_heap {b : Nat} {x y : Obj} (h : w.heap[b]? = some x) : (w.setObj' b y).heap[b]? = some y := by
  have hlt : b < w.heap.size := (Array.getElem?_eq_some_iff.1 h).1
  simp [World.setObj', hlt]
theorem setObj_other {b k : Nat} {y : Obj} (h : k ≠ b) : (w.setObj' b y).heap[k]? = w.heap[k]? := by simp [World.setObj', Ne.symm h]
theorem setObj_size {b : Nat} {y : Obj} : (w.setObj' b y).heap.size = w.heap.size := by simp [World.setObj']
theorem fr_setObj {g : Nat} (x : Obj) (h : Fr base M w0 w) (hg : base ≤ g ∨ M g) : Fr base M w0 (w.setObj' g x) :=
  ⟨h.os, h.tape, h.output, h.size0, by rw [setObj_size]; exact h.size, fun k hk hm => by
    rw [setObj_other (by rintro rfl; rcases hg with h1 | h1; · omega
                         exact hm h1)]
    exact h.block k hk hm, h.drawn⟩

/-- A map's block is turned. -/
theorem put_map (hO : RelO base W M w0 objs w L) {r c c' : Nat} {shs shs' : List Sh} {agg agg' : Bool} {es es' : List (Nat × T × DV)} (hc : objs r = some (.map shs agg c es)) {arr' : Array MapEntry}
    (hr : RelEs w W objs L es' arr'.toList) (h1 : ∀ e ∈ es', keyOk shs' agg' e.2.1) (h2 : ∀ e ∈ es', e.1 < c') (h3 : (es'.map (·.1)).Nodup) :
    RelO base W M w0 (putO objs (some (r, .map shs' agg' c' es'))) (w.setObj' (L.blk r) (.map arr' c')) L ∧ Adv W objs L w (putO objs (some (r, .map shs' agg' c' es'))) L (w.setObj' (L.blk r) (.map arr' c')) := by
  obtain ⟨arr, hh, _, _, _, _, hm⟩ := hO.ob r _ hc
  refine RelO.put hO (fr_setObj _ hO.fr hm) (by rw [setObj_size]; exact Nat.le_refl _) (fun _ _ => ⟨rfl, rfl⟩) rfl (fun b _ hb => setObj_other (fun x => hb _ hc (by simp [Loc.own, x])))
    (fun b hb => .inl ⟨_, hc, hb⟩) (fun o' ho' _ => by rw [hc] at ho'; cases ho'; exact ⟨rfl, rfl⟩) (fun ver e sz rows h => by rw [hc] at h; cases h) (fun adv => ?_)
  exact ⟨arr', setObj_heap hh, RelEs.adv adv _ _ hr, h1, h2, h3, hm⟩

theorem sameBits_self : ∀ {shs : List Sh} {ts : List T} {vs : List Value} {W' : Nat → Prop} (n : Nat), fitsT shs ts → RelL w W' ts vs → (vs.zip vs).all (fun x => Instr.sameBits n x.1 x.2) = true
  | [], ts, vs, W', n, h, hr => by simp only [fitsT] at h; subst h; simp only [RelL] at hr; subst hr; rfl
  | s :: ss, [], _, _, _, h, _ => by simp [fitsT] at h
  | s :: ss, t :: ts, vs, W', n, h, hr => by
    simp only [fitsT] at h
    simp only [RelL] at hr
    obtain ⟨v, vs', rfl, _, h1, h2⟩ := hr
    simp only [List.zip_cons_cons, List.all_cons, Bool.and_eq_true]
    refine ⟨?_, sameBits_self n h.2 h2⟩
    have hs := h.1
    cases s <;> cases t <;> first | exact absurd hs Bool.false_ne_true | skip
    all_goals (simp only [RelT] at h1; subst h1; cases n <;> simp [Instr.sameBits, ba_beq])
theorem key_same {shs : List Sh} {agg : Bool} {t : T} {x : Value} {W' : Nat → Prop} (h : keyOk shs agg t) (hr : RelT w W' t x) : Instr.sameBits 10000 x x = true := by
  cases t with
  | agg as =>
    simp only [keyOk] at h
    simp only [RelT] at hr
    obtain ⟨vs, rfl, hr⟩ := hr
    simp only [Instr.sameBits, beq_self_eq_true, Bool.true_and]
    exact sameBits_self 9999 h.2 hr
  | _ =>
    simp only [keyOk] at h
    obtain ⟨s, rfl, hs⟩ := fitsT_one h.2
    have h1 : x.oneCell' = true := by cases s <;> first | exact absurd hs Bool.false_ne_true | (simp only [RelT] at hr; subst hr; rfl)
    have := sameBits_self (w := w) (W' := W') 10000 h.2 (vs := [x]) (by simp only [RelL]; exact ⟨x, [], rfl, h1, hr, rfl⟩)
    simpa using this
/-- Trees without memory read as one value. -/
theorem leafs_val : ∀ {shs : List Sh} {ts : List T} {vs us : List Value} {W' : Nat → Prop}, fitsT shs ts → RelL w W' ts vs → RelL w W' ts us → vs = us
  | [], ts, vs, us, W', h, h1, h2 => by simp only [fitsT] at h; subst h; simp only [RelL] at h1 h2; rw [h1, h2]
  | s :: ss, [], _, _, _, h, _, _ => by simp [fitsT] at h
  | s :: ss, t :: ts, vs, us, W', h, h1, h2 => by
    simp only [fitsT] at h
    simp only [RelL] at h1 h2
    obtain ⟨v, vs', rfl, _, k1, k2⟩ := h1
    obtain ⟨u, us', rfl, _, l1, l2⟩ := h2
    have hs := h.1
    rw [leafs_val h.2 k2 l2]
    congr 1
    cases s <;> cases t <;> first | exact absurd hs Bool.false_ne_true | skip
    all_goals (simp only [RelT] at k1 l1; rw [k1, l1])
theorem key_val {shs : List Sh} {agg : Bool} {t : T} {x y : Value} {W' : Nat → Prop} (h : keyOk shs agg t) (hx : RelT w W' t x) (hy : RelT w W' t y) : x = y := by
  cases t with
  | agg as =>
    simp only [keyOk] at h
    simp only [RelT] at hx hy
    obtain ⟨vs, rfl, hx⟩ := hx
    obtain ⟨us, rfl, hy⟩ := hy
    have := leafs_val h.2 hx hy
    rw [Array.toList_inj.1 this]
  | _ =>
    simp only [keyOk] at h
    obtain ⟨s, rfl, hs⟩ := fitsT_one h.2
    cases s <;> first | exact absurd hs Bool.false_ne_true | (simp only [RelT] at hx hy; rw [hx, hy])
end
end Go.DM
