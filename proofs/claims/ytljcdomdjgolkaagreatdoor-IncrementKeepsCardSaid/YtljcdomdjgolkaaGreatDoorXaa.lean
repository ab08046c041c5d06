/- The D-machine, part A: pure tree values, slot values, named objects, and how they are related to the model's values in a world. Conditions: none. -/
import Derived.CallsIn
import Derived.Below
import Derived.Laws.AppendOwn
import Derived.Laws.AppendOwnNone
import Derived.Laws.MakeOwn
import Derived.Laws.World
import Derived.Laws.Cells
import Derived.Laws.Small
import Derived.Laws.Entries
import Derived.Laws.Strings
set_option linter.unusedVariables false
namespace Go.DM

/-- A pure tree value: what a Go value reads as when it is never written again. A struct is the flat list of its cells; a slice the list of its rows (one row of cells an element). -/
inductive T where
  | bool (b : Bool)
  | int (k : IntKind) (n : Int)
  | str (s : ByteArray)
  | sl (rows : List (List T))
  | agg (cs : List T)
  | tup (vs : List T)
  | fn (f : Fn) (caps : List T)
  | box (cs : List T)
  | raw (v : Value)

instance : Inhabited T := ⟨.bool false⟩

section
variable (w : World) (W : Nat → Prop)
mutual
/-- The value v reads as the tree t in world w, and all the memory of it lies outside W (what may still be written). -/
def RelT : T → Value → Prop
  | .bool b, v => v = .bool b
  | .int k n, v => v = .int k n
  | .str s, v => v = .string s
  | .sl rows, v => (rows = [] ∧ ∃ (a : Option Addr) (cap : Nat), v = .slice a 0 cap) ∨
      ∃ b o cap sz, v = .slice (some ⟨b, o, none⟩) rows.length cap ∧ b < w.heap.size ∧ ¬ W b ∧ rows.length ≤ cap ∧ RelRows sz b o rows
  | .agg cs, v => ∃ vs, v = .agg vs ∧ RelL cs vs.toList
  | .tup ts, v => ∃ vs, v = .tuple vs ∧ RelA ts vs.toList
  | .fn f caps, v => ∃ vs, v = .func f #[] vs ∧ RelL caps vs.toList
  | .box cs, v => ∃ b o, v = .pointer (some ⟨b, o, none⟩) ∧ b < w.heap.size ∧ ¬ W b ∧ RelAt b o cs
  | .raw x, v => v = x
def RelL : List T → List Value → Prop
  | [], vs => vs = []
  | t :: ts, vs => ∃ v vs', vs = v :: vs' ∧ v.oneCell' = true ∧ RelT t v ∧ RelL ts vs'
def RelA : List T → List Value → Prop
  | [], vs => vs = []
  | t :: ts, vs => ∃ v vs', vs = v :: vs' ∧ RelT t v ∧ RelA ts vs'
def RelAt : Nat → Nat → List T → Prop
  | _, _, [] => True
  | b, o, t :: ts => (∃ v, w.cell? ⟨b, o, none⟩ = some v ∧ v.oneCell' = true ∧ RelT t v) ∧ RelAt b (o + 1) ts
def RelRows : Nat → Nat → Nat → List (List T) → Prop
  | _, _, _, [] => True
  | sz, b, o, r :: rs => r.length = sz ∧ RelAt b o r ∧ RelRows sz b (o + sz) rs
end
end

/-- What must hold for a reading to stay: the old cells outside W stay. -/
structure KeepsC (W : Nat → Prop) (w w' : World) : Prop where
  size : w.heap.size ≤ w'.heap.size
  blk : ∀ (b : Nat) c e fr, w.heap[b]? = some (.cells c e fr) → ¬ W b → w'.heap[b]? = some (.cells c e fr)
/-- The marks of loops stay, too. -/
structure Keeps (W : Nat → Prop) (w w' : World) : Prop extends KeepsC W w w' where
  dfr : ∀ b : Nat, w.heap[b]? = some (Obj.deferred (some [])) → w'.heap[b]? = some (Obj.deferred (some []))
  lps : ∀ (b : Nat) r, w.heap[b]? = some (Obj.loop r) → w'.heap[b]? = some (Obj.loop r)

theorem KeepsC.cell {W : Nat → Prop} {w w' : World} (h : KeepsC W w w') {b o : Nat} {v : Value} (hn : ¬ W b) (hc : w.cell? ⟨b, o, none⟩ = some v) : w'.cell? ⟨b, o, none⟩ = some v := by
  unfold World.cell? at hc ⊢
  simp only at hc ⊢
  split at hc
  · rename_i c e fr hb
    rw [h.blk b c e fr hb hn]
    exact hc
  · cases hc
theorem Keeps.refl (W : Nat → Prop) (w : World) : Keeps W w w := ⟨⟨Nat.le_refl _, fun _ _ _ _ h _ => h⟩, fun _ h => h, fun _ _ h => h⟩
theorem Keeps.trans {W : Nat → Prop} {a b c : World} (h : Keeps W a b) (k : Keeps W b c) : Keeps W a c :=
  ⟨⟨Nat.le_trans h.size k.size, fun i c e fr hi hw => k.blk i c e fr (h.blk i c e fr hi hw) hw⟩, fun i hi => k.dfr i (h.dfr i hi), fun i r hi => k.lps i r (h.lps i r hi)⟩
theorem Keeps.mono {W W' : Nat → Prop} {a b : World} (h : Keeps W a b) (hw : ∀ i, W i → W' i) : Keeps W' a b :=
  ⟨⟨h.size, fun i c e fr hi hn => h.blk i c e fr hi fun x => hn (hw i x)⟩, h.dfr, h.lps⟩
/-- Nothing below B has turned, and no draw has been taken back. -/
structure BelD (B : Nat) (w w' : World) : Prop extends RowKit.Below B w w' where
  drawn : w.drawn ≤ w'.drawn
theorem BelD.refl (B : Nat) (w : World) : BelD B w w := ⟨RowKit.Below.refl B w, Nat.le_refl _⟩
theorem BelD.trans {B : Nat} {a b c : World} (h : BelD B a b) (k : BelD B b c) : BelD B a c := ⟨h.toBelow.trans k.toBelow, Nat.le_trans h.drawn k.drawn⟩
theorem Keeps.of_below {W : Nat → Prop} {w w' : World} (h : RowKit.Below w.heap.size w w') : Keeps W w w' :=
  ⟨⟨h.size, fun b c e fr hb _ => (h.block b (Array.getElem?_eq_some_iff.1 hb).1).trans hb⟩, fun b hb => (h.block b (Array.getElem?_eq_some_iff.1 hb).1).trans hb, fun b r hb => (h.block b (Array.getElem?_eq_some_iff.1 hb).1).trans hb⟩

mutual
theorem RelT.keep {w w' : World} {W W' : Nat → Prop} (h : KeepsC W w w') (hW : ∀ b, b < w.heap.size → W' b → W b) : ∀ (t : T) (v : Value), RelT w W t v → RelT w' W' t v
  | .bool b, v, r => by simpa [RelT] using r
  | .int k n, v, r => by simpa [RelT] using r
  | .raw x, v, r => by simpa [RelT] using r
  | .str s, v, r => by simpa [RelT] using r
  | .sl rows, v, r => by
    simp only [RelT] at r ⊢
    rcases r with r | ⟨b, o, cap, sz, hv, hb, hn, hc, hr⟩
    · exact .inl r
    · exact .inr ⟨b, o, cap, sz, hv, Nat.lt_of_lt_of_le hb h.size, fun x => hn (hW b hb x), hc, RelRows.keep h hW hb hn sz o rows hr⟩
  | .agg cs, v, r => by
    simp only [RelT] at r ⊢
    obtain ⟨vs, hv, hr⟩ := r
    exact ⟨vs, hv, RelL.keep h hW cs _ hr⟩
  | .tup ts, v, r => by
    simp only [RelT] at r ⊢
    obtain ⟨vs, hv, hr⟩ := r
    exact ⟨vs, hv, RelA.keep h hW ts _ hr⟩
  | .fn f caps, v, r => by
    simp only [RelT] at r ⊢
    obtain ⟨vs, hv, hr⟩ := r
    exact ⟨vs, hv, RelL.keep h hW caps _ hr⟩
  | .box cs, v, r => by
    simp only [RelT] at r ⊢
    obtain ⟨b, o, hv, hb, hn, hr⟩ := r
    exact ⟨b, o, hv, Nat.lt_of_lt_of_le hb h.size, fun x => hn (hW b hb x), RelAt.keep h hW hb hn o cs hr⟩
theorem RelL.keep {w w' : World} {W W' : Nat → Prop} (h : KeepsC W w w') (hW : ∀ b, b < w.heap.size → W' b → W b) : ∀ (ts : List T) (vs : List Value), RelL w W ts vs → RelL w' W' ts vs
  | [], vs, r => by simpa [RelL] using r
  | t :: ts, vs, r => by
    simp only [RelL] at r ⊢
    obtain ⟨v, vs', hv, h1, hr, hrs⟩ := r
    exact ⟨v, vs', hv, h1, RelT.keep h hW t v hr, RelL.keep h hW ts vs' hrs⟩
theorem RelA.keep {w w' : World} {W W' : Nat → Prop} (h : KeepsC W w w') (hW : ∀ b, b < w.heap.size → W' b → W b) : ∀ (ts : List T) (vs : List Value), RelA w W ts vs → RelA w' W' ts vs
  | [], vs, r => by simpa [RelA] using r
  | t :: ts, vs, r => by
    simp only [RelA] at r ⊢
    obtain ⟨v, vs', hv, hr, hrs⟩ := r
    exact ⟨v, vs', hv, RelT.keep h hW t v hr, RelA.keep h hW ts vs' hrs⟩
theorem RelAt.keep {w w' : World} {W W' : Nat → Prop} (h : KeepsC W w w') (hW : ∀ b, b < w.heap.size → W' b → W b) {b : Nat} (hb : b < w.heap.size) (hn : ¬ W b) : ∀ (o : Nat) (ts : List T), RelAt w W b o ts → RelAt w' W' b o ts
  | _, [], _ => by simp [RelAt]
  | o, t :: ts, r => by
    simp only [RelAt] at r ⊢
    obtain ⟨⟨v, hc, h1, hr⟩, hrs⟩ := r
    exact ⟨⟨v, h.cell hn hc, h1, RelT.keep h hW t v hr⟩, RelAt.keep h hW hb hn (o + 1) ts hrs⟩
theorem RelRows.keep {w w' : World} {W W' : Nat → Prop} (h : KeepsC W w w') (hW : ∀ b, b < w.heap.size → W' b → W b) {b : Nat} (hb : b < w.heap.size) (hn : ¬ W b) (sz : Nat) : ∀ (o : Nat) (rs : List (List T)), RelRows w W sz b o rs → RelRows w' W' sz b o rs
  | _, [], _ => by simp [RelRows]
  | o, r :: rs, x => by
    simp only [RelRows] at x ⊢
    exact ⟨x.1, RelAt.keep h hW hb hn o r x.2.1, RelRows.keep h hW hb hn sz (o + sz) rs x.2.2⟩
end

section
variable {w : World} {W : Nat → Prop}
theorem RelRows.row {sz b : Nat} : ∀ {rows : List (List T)} {o i : Nat} {r : List T}, RelRows w W sz b o rows → rows[i]? = some r → r.length = sz ∧ RelAt w W b (o + i * sz) r
  | [], _, _, _, _, h => by simp at h
  | x :: xs, o, 0, r, hr, h => by
    simp only [RelRows] at hr
    simp only [List.getElem?_cons_zero, Option.some.injEq] at h
    subst h
    simpa using ⟨hr.1, hr.2.1⟩
  | x :: xs, o, i + 1, r, hr, h => by
    simp only [RelRows] at hr
    simp only [List.getElem?_cons_succ] at h
    have := RelRows.row hr.2.2 h
    rw [show o + (i + 1) * sz = o + sz + i * sz by rw [Nat.add_mul]; omega]
    exact this
theorem RelAt.cell {b : Nat} : ∀ {ts : List T} {o j : Nat} {t : T}, RelAt w W b o ts → ts[j]? = some t → ∃ v, w.cell? ⟨b, o + j, none⟩ = some v ∧ v.oneCell' = true ∧ RelT w W t v
  | [], _, _, _, _, h => by simp at h
  | x :: xs, o, 0, t, hr, h => by
    simp only [RelAt] at hr
    simp only [List.getElem?_cons_zero, Option.some.injEq] at h
    subst h
    simpa using hr.1
  | x :: xs, o, j + 1, t, hr, h => by
    simp only [RelAt] at hr
    simp only [List.getElem?_cons_succ] at h
    have := RelAt.cell hr.2 h
    rw [show o + (j + 1) = o + 1 + j by omega]
    exact this
theorem RelAt.of_cells {b : Nat} : ∀ (ts : List T) (o : Nat), (∀ j t, ts[j]? = some t → ∃ v, w.cell? ⟨b, o + j, none⟩ = some v ∧ v.oneCell' = true ∧ RelT w W t v) → RelAt w W b o ts
  | [], _, _ => by simp [RelAt]
  | t :: ts, o, h => by
    simp only [RelAt]
    refine ⟨by simpa using h 0 t (by simp), RelAt.of_cells ts (o + 1) fun j u hu => ?_⟩
    have := h (j + 1) u (by simpa using hu)
    rwa [show o + 1 + j = o + (j + 1) by omega]
theorem RelRows.of_rows {sz b : Nat} : ∀ (rs : List (List T)) (o : Nat), (∀ i r, rs[i]? = some r → r.length = sz ∧ RelAt w W b (o + i * sz) r) → RelRows w W sz b o rs
  | [], _, _ => by simp [RelRows]
  | r :: rs, o, h => by
    simp only [RelRows]
    have h0 := h 0 r (by simp)
    refine ⟨h0.1, by simpa using h0.2, RelRows.of_rows rs (o + sz) fun i u hu => ?_⟩
    have := h (i + 1) u (by simpa using hu)
    rwa [show o + sz + i * sz = o + (i + 1) * sz by rw [Nat.add_mul]; omega]
theorem RelL.length : ∀ {ts : List T} {vs : List Value}, RelL w W ts vs → vs.length = ts.length
  | [], _, h => by simp only [RelL] at h; simp [h]
  | _ :: ts, _, h => by
    simp only [RelL] at h
    obtain ⟨v, vs', rfl, _, _, hr⟩ := h
    simp [RelL.length hr]
theorem RelA.length : ∀ {ts : List T} {vs : List Value}, RelA w W ts vs → vs.length = ts.length
  | [], _, h => by simp only [RelA] at h; simp [h]
  | _ :: ts, _, h => by
    simp only [RelA] at h
    obtain ⟨v, vs', rfl, _, hr⟩ := h
    simp [RelA.length hr]
theorem RelL.get : ∀ {ts : List T} {vs : List Value} {i : Nat} {t : T}, RelL w W ts vs → ts[i]? = some t → ∃ v, vs[i]? = some v ∧ v.oneCell' = true ∧ RelT w W t v
  | [], _, _, _, _, h => by simp at h
  | x :: xs, _, 0, t, hr, h => by
    simp only [RelL] at hr
    obtain ⟨v, vs', rfl, h1, h2, _⟩ := hr
    simp only [List.getElem?_cons_zero, Option.some.injEq] at h
    subst h
    exact ⟨v, rfl, h1, h2⟩
  | x :: xs, _, i + 1, t, hr, h => by
    simp only [RelL] at hr
    obtain ⟨v, vs', rfl, _, _, hr⟩ := hr
    simpa using RelL.get hr (by simpa using h)
theorem RelA.get : ∀ {ts : List T} {vs : List Value} {i : Nat} {t : T}, RelA w W ts vs → ts[i]? = some t → ∃ v, vs[i]? = some v ∧ RelT w W t v
  | [], _, _, _, _, h => by simp at h
  | x :: xs, _, 0, t, hr, h => by
    simp only [RelA] at hr
    obtain ⟨v, vs', rfl, h2, _⟩ := hr
    simp only [List.getElem?_cons_zero, Option.some.injEq] at h
    subst h
    exact ⟨v, rfl, h2⟩
  | x :: xs, _, i + 1, t, hr, h => by
    simp only [RelA] at hr
    obtain ⟨v, vs', rfl, _, hr⟩ := hr
    simpa using RelA.get hr (by simpa using h)
end
/-- Package variables that are never written: their blocks and what lies there. -/
class Laid where
  cells : List (Nat × List T)
/-- No variable is laid. -/
abbrev Laid.none : Laid := ⟨[]⟩
/-- The laid variables lie there, and may not be written. -/
def GOk [Laid] (w : World) (W : Nat → Prop) : Prop := ∀ p ∈ Laid.cells, p.1 < w.heap.size ∧ ¬ W p.1 ∧ RelAt w W p.1 0 p.2
theorem GOk.keep [Laid] {w w' : World} {W W' : Nat → Prop} (h : GOk w W) (hk : KeepsC W w w') (hW : ∀ b, b < w.heap.size → W' b → W b) : GOk w' W' := fun p hp => by
  obtain ⟨h1, h2, h3⟩ := h p hp
  exact ⟨Nat.lt_of_lt_of_le h1 hk.size, fun x => h2 (hW _ h1 x), RelAt.keep hk hW h1 h2 0 p.2 h3⟩
theorem GOk.empty (w : World) (W : Nat → Prop) : @GOk Laid.none w W := fun p hp => by cases hp
end Go.DM
/- The D-machine, part B: slot values, named objects, the state, the operations and what they do to the state. Conditions: none. -/
set_option linter.unusedVariables false
namespace Go.DM

/-- What a slot holds. -/
inductive DV where
  | undef
  | skip                                                   -- what an operation that was passed over leaves
  | v (t : T)
  | nil0                                                   -- a slice with length 0 and capacity 0
  | ptr (r off : Nat)                                      -- a cell of the box named r
  | aref (r ver : Nat)                                     -- the slice over the array named r, at its version
  | tptr (rows : List (List T)) (i : Int) (off : Nat)      -- a cell of row i of a slice that is never written
  | bptr (cs : List T) (off : Nat)                         -- a cell of a box that is never written
  | aptr (r ver : Nat) (i : Int) (off : Nat)               -- a cell of row i of the array named r
  | agg (cs : List DV)
  | yld                                                    -- the function that a range over a function hands to its iterator
  | mref (r : Nat)                                         -- the map named r
  | iter (r : Nat)                                         -- the iterator over a map named r
  | tup (ds : List DV)                                     -- a tuple
  | asl (r ver lo n : Nat)                                 -- n rows of the array named r from row lo on
  | clo (f : Fn) (caps : List DV)                          -- a function value that holds more than trees
  | bsl (r n : Nat)                                        -- the slice of n rows over the box named r

instance : Inhabited DV := ⟨.undef⟩

/-- The shape of a type whose values are compared cell by cell. -/
inductive Sh where
  | bool | int (k : IntKind) | str
def shOk : Sh → T → Bool
  | .bool, .bool _ => true
  | .int k, .int k' _ => k == k'
  | .str, .str _ => true
  | _, _ => false

def fitsT : List Sh → List T → Prop
  | [], ts => ts = []
  | s :: ss, t :: ts => shOk s t = true ∧ fitsT ss ts
  | _ :: _, [] => False

/-- A named object that may be written. A map: the shape of its keys; the next stamp; each entry's stamp, key and value. An iterator over the map named m: the stamp at which it began, the stamps seen, the map's stamp at the last step. -/
inductive Ob where
  | box (cs : List DV)
  | arr (ver e sz : Nat) (rows : List (List T))
  | map (shs : List Sh) (agg : Bool) (clock : Nat) (es : List (Nat × T × DV))
  | iter (m since : Nat) (seen : List Nat) (last : Nat)

def Ob.kind : Ob → Nat
  | .box _ => 0
  | .arr _ _ _ _ => 1
  | .map _ _ _ _ => 2
  | .iter _ _ _ _ => 3

abbrev Obs := Nat → Option Ob

/-- The state: the slots, the objects, the number from which new names are made; the number from which on names are the run's own; what is still to be handed to a loop's body. -/
structure DSt where
  tmps : Nat → DV
  objs : Obs
  nxt : Nat
  low : Nat
  todo : List (List T)

/-- An operand: a slot or a constant. -/
inductive Opd where
  | tmp (t : Nat)
  | con (d : DV)

def Opd.ev (ρ : Nat → DV) : Opd → DV
  | .tmp t => ρ t
  | .con d => d

/-- What a call leaves that may write: what must hold, the answer, the objects. -/
structure SRes where
  ok : Prop
  val : DV
  objs : Obs

/-- A function's contract: where it may be called, and what it answers. 'scalar': the answer holds no memory, so an array may be lent to the call. 'st': the contract of a function that may write. -/
structure Spec where
  pre : List T → Prop
  fn : List T → T
  scalar : Bool
  st : Option (List DV → Obs → SRes) := none
  fresh : Option (Nat × Nat) := none   -- its answer is a slice over new memory, of this element type and size
  lend : Bool := false                  -- and its cells hold no memory: it may be lent arrays

abbrev Env := FuncId → Option Spec


inductive DOp where
  | mov (x : Opd)
  | pick (c a b : Opd)
  | alloc (zero : List DV)
  | box (x : Opd)
  | build (zero : List DV) (parts : List (Nat × Nat × Opd))
  | bslice (len sz : Nat) (zero : List DV) (parts : List (Nat × Nat × Opd))
  | load (n : Nat) (agg : Bool) (x : Opd)
  | store (n : Nat) (x y : Opd)
  | bin (op : BinOp) (x y : Opd)
  | eqT (neg agg : Bool) (shs : List Sh) (x y : Opd)
  | un (op : UnOp) (x : Opd)
  | conv (k : IntKind) (x : Opd)
  | addOff (k : Nat) (x : Opd)
  | nilCheck (x : Opd)
  | idxAddr (sz : Nat) (x i : Opd)
  | arrAddr (len sz : Nat) (x i : Opd)
  | field (off n : Nat) (agg : Bool) (x : Opd)
  | slice (sz : Nat) (x : Opd) (lo hi : Option Opd)
  | extract (i : Nat) (x : Opd)
  | call (f : FuncId) (args : List Opd)
  | callS (f : FuncId) (args : List Opd)
  | callF (f : FuncId) (args : List Opd)
  | callR (f : FuncId) (args : List Opd)                   -- a call that reads the objects of its arguments and writes none
  | callv (x : Opd) (args : List Opd)
  | len (x : Opd)
  | lenS (x : Opd)
  | minmax (isMax : Bool) (x y : Opd)
  | append (e sz bytes : Nat) (x y : Opd)
  | mkSlice (e sz bytes : Nat) (zero : List T) (n : Opd)
  | mkSliceB (e sz bytes : Nat) (zero : List T) (n : Opd)
  | mkFn (f : Fn) (caps : List Opd)
  | mkMap (shs : List Sh) (agg : Bool)
  | lookup (shs : List Sh) (agg : Bool) (zero : DV) (ok : Bool) (x k : Opd)
  | mapUpd (shs : List Sh) (agg : Bool) (x k y : Opd)
  | mapDel (shs : List Sh) (agg : Bool) (x k : Opd)
  | mapEnt (shs : List Sh) (agg : Bool) (zero : DV) (x k : Opd)  -- an entry, made if it is not there, and its stamp
  | entSt (x s y : Opd)                                          -- a write to the entry with a stamp
  | lenM (x : Opd)
  | rangeM (x : Opd)
  | entryM (x : Opd)
  | copy (sz : Nat) (x y : Opd)
  | isNil (kind : Nat) (neg : Bool) (x : Opd)
  | indexS (x i : Opd)
  | fail

/-- The effect of an operation: what must hold, the value, the object that it lays or turns. -/
structure Eff where
  ok : Prop
  val : DV
  put : Option (Nat × Ob) := none

def bad : Eff := ⟨False, .undef, none⟩

def leafT : T → Bool
  | .agg _ | .tup _ => false
  | .raw v => v.oneCell'
  | _ => true

/-- The cells of a value. -/
def cellsOf : DV → List DV
  | .v (.agg cs) => cs.map .v
  | .agg cs => cs
  | d => [d]

/-- May this value be a variable's value? -/
def boxable : DV → Prop
  | .undef => False
  | .skip => False
  | .v (.tup _) => False
  | .v (.raw x) => x.oneCell' = true
  | .tup _ => False
  | _ => True

mutual
/-- The tree that a value reads as. -/
def tOf (objs : Obs) : DV → T
  | .v t => t
  | .nil0 => .sl []
  | .aref r _ => match objs r with | some (.arr _ _ _ rows) => .sl rows | _ => .sl []
  | .agg cs => .agg (tOfs objs cs)
  | .asl r _ lo n => match objs r with | some (.arr _ _ _ rows) => .sl ((rows.drop lo).take n) | _ => .sl []
  | .clo f caps => .fn f (tOfs objs caps)
  | _ => .raw undef
def tOfs (objs : Obs) : List DV → List T
  | [] => []
  | d :: ds => tOf objs d :: tOfs objs ds
end

mutual
/-- It reads as a tree that shares nothing with an array that may be written (lend = false), or may share for the time of a call (lend = true). -/
def tOk (lend : Bool) (objs : Obs) : DV → Prop
  | .v _ => True
  | .nil0 => True
  | .aref r ver => lend = true ∧ match objs r with | some (.arr ver' _ _ _) => ver = ver' | _ => False
  | .agg cs => tOks lend objs cs
  | .asl r ver lo n => lend = true ∧ match objs r with | some (.arr ver' _ _ rows) => ver = ver' ∧ lo + n ≤ rows.length | _ => False
  | .clo _ caps => tOks lend objs caps
  | _ => False
def tOks (lend : Bool) (objs : Obs) : List DV → Prop
  | [] => True
  | d :: ds => tOk lend objs d ∧ tOks lend objs ds
end

def pureCell : DV → Prop
  | .v t => leafT t = true
  | .nil0 => True
  | _ => False
def pureCells : List DV → Prop
  | [] => True
  | d :: ds => pureCell d ∧ pureCells ds
def pureB : List DV → Bool
  | [] => true
  | .v t :: ds => leafT t && pureB ds
  | .nil0 :: ds => pureB ds
  | _ :: _ => false

/-- May this stand in a cell? -/
def cellable : DV → Prop
  | .undef => False
  | .skip => False
  | .v t => leafT t = true
  | .agg _ => False
  | .tup _ => False
  | _ => True
def cellables : List DV → Prop
  | [] => True
  | d :: ds => cellable d ∧ cellables ds

def splice {α : Type} (l : List α) (off : Nat) (new : List α) : List α := l.take off ++ new ++ l.drop (off + new.length)

/-- Parts of a literal laid over its zero cells. -/
def fillD (cells : List DV) : List (Nat × Nat × DV) → List DV
  | [] => cells
  | (off, _, d) :: ps => fillD (splice cells off (cellsOf d)) ps
def fillOk (n : Nat) : List (Nat × Nat × DV) → Prop
  | [] => True
  | (off, sz, d) :: ps => (cellsOf d).length = sz ∧ off + sz ≤ n ∧ cellables (cellsOf d) ∧ fillOk n ps

def rowAt (rows : List (List T)) (i : Int) : List T := rows.getD i.toNat []

def chunk (sz : Nat) : Nat → List T → List (List T)
  | 0, _ => []
  | n + 1, cs => cs.take sz :: chunk sz n (cs.drop sz)

def loadSem (n : Nat) (agg : Bool) (objs : Obs) : DV → Eff
  | .ptr r off => match objs r with
    | some (.box cs) => ⟨off + n ≤ cs.length ∧ (agg = true ∨ n = 1), if agg then .agg ((cs.drop off).take n) else cs.getD off .undef, none⟩
    | _ => bad
  | .tptr rows i off => ⟨off + n ≤ (rowAt rows i).length ∧ (agg = true ∨ n = 1), if agg then .v (.agg (((rowAt rows i).drop off).take n)) else .v ((rowAt rows i).getD off default), none⟩
  | .bptr cs off => ⟨off + n ≤ cs.length ∧ (agg = true ∨ n = 1), if agg then .v (.agg ((cs.drop off).take n)) else .v (cs.getD off default), none⟩
  | .v (.box cs) => ⟨n ≤ cs.length ∧ (agg = true ∨ n = 1), if agg then .v (.agg (cs.take n)) else .v (cs.getD 0 default), none⟩
  | .aptr r ver i off => match objs r with
    | some (.arr ver' _ _ rows) => ⟨ver = ver' ∧ off + n ≤ (rowAt rows i).length ∧ (agg = true ∨ n = 1), if agg then .v (.agg (((rowAt rows i).drop off).take n)) else .v ((rowAt rows i).getD off default), none⟩
    | _ => bad
  | _ => bad

def storeSem (n : Nat) (objs : Obs) (y : DV) : DV → Eff
  | .ptr r off => match objs r with
    | some (.box cs) => ⟨(cellsOf y).length = n ∧ off + n ≤ cs.length ∧ cellables (cellsOf y), .undef, some (r, .box (splice cs off (cellsOf y)))⟩
    | _ => bad
  | .aptr r ver i off => match objs r with
    | some (.arr ver' e sz rows) => ⟨ver = ver' ∧ (cellsOf y).length = n ∧ off + n ≤ sz ∧ pureCells (cellsOf y), .undef,
        some (r, .arr ver' e sz (rows.set i.toNat (splice (rowAt rows i) off (tOfs objs (cellsOf y)))))⟩
    | _ => bad
  | _ => bad

def binSem (op : BinOp) : DV → DV → Eff
  | .v (.int k a), .v (.int k' b) => match op with
    | .add => ⟨k = k', .v (.int k (k.wrap (a + b))), none⟩
    | .sub => ⟨k = k', .v (.int k (k.wrap (a - b))), none⟩
    | .mul => ⟨k = k', .v (.int k (k.wrap (a * b))), none⟩
    | .quo => ⟨k = k' ∧ b ≠ 0, .v (.int k (k.wrap (a.tdiv b))), none⟩
    | .rem => ⟨k = k' ∧ b ≠ 0, .v (.int k (a.tmod b)), none⟩
    | .eql => ⟨k = k', .v (.bool (decide (a = b))), none⟩
    | .neq => ⟨k = k', .v (.bool (!decide (a = b))), none⟩
    | .lss => ⟨k = k', .v (.bool (decide (a < b))), none⟩
    | .leq => ⟨k = k', .v (.bool (decide (a ≤ b))), none⟩
    | .gtr => ⟨k = k', .v (.bool (decide (b < a))), none⟩
    | .geq => ⟨k = k', .v (.bool (decide (b ≤ a))), none⟩
    | .shl => ⟨0 ≤ b, .v (.int k (k.wrap (a * 2 ^ min b.toNat k.bits))), none⟩
    | .shr => ⟨0 ≤ b, .v (.int k (a / 2 ^ min b.toNat k.bits)), none⟩
    | .and => ⟨k = k', .v (.int k (k.wrap (BitVec.ofInt k.bits a &&& BitVec.ofInt k.bits b).toNat)), none⟩
    | .or => ⟨k = k', .v (.int k (k.wrap (BitVec.ofInt k.bits a ||| BitVec.ofInt k.bits b).toNat)), none⟩
    | .xor => ⟨k = k', .v (.int k (k.wrap (BitVec.ofInt k.bits a ^^^ BitVec.ofInt k.bits b).toNat)), none⟩
    | _ => bad
  | _, _ => bad

mutual
/-- Equality of trees that are compared cell by cell. -/
def eqTB : T → T → Bool
  | .bool a, .bool b => a == b
  | .int _ a, .int _ b => decide (a = b)
  | .str a, .str b => decide (a = b)
  | .agg as, .agg bs => eqTBs as bs
  | _, _ => false
def eqTBs : List T → List T → Bool
  | [], [] => true
  | a :: as, b :: bs => eqTB a b && eqTBs as bs
  | _, _ => false
end

def eqSem (neg agg : Bool) (shs : List Sh) : T → T → Eff
  | .agg as, .agg bs => ⟨agg = true ∧ fitsT shs as ∧ fitsT shs bs, .v (.bool (neg ^^ eqTBs as bs)), none⟩
  | a, b => ⟨agg = false ∧ fitsT shs [a] ∧ fitsT shs [b], .v (.bool (neg ^^ eqTB a b)), none⟩

def unSem (op : UnOp) : DV → Eff
  | .v (.bool b) => match op with
    | .not => ⟨True, .v (.bool (!b)), none⟩
    | _ => bad
  | .v (.int k n) => match op with
    | .neg => ⟨True, .v (.int k (k.wrap (-n))), none⟩
    | _ => bad
  | _ => bad

def addOffSem (k : Nat) : DV → Eff
  | .ptr r off => ⟨True, .ptr r (off + k), none⟩
  | .tptr rows i off => ⟨True, .tptr rows i (off + k), none⟩
  | .bptr cs off => ⟨True, .bptr cs (off + k), none⟩
  | .v (.box cs) => ⟨True, .bptr cs k, none⟩
  | .aptr r ver i off => ⟨True, .aptr r ver i (off + k), none⟩
  | _ => bad

def nilCheckSem : DV → Eff
  | .ptr r off => ⟨True, .ptr r off, none⟩
  | .tptr rows i off => ⟨True, .tptr rows i off, none⟩
  | .bptr cs off => ⟨True, .bptr cs off, none⟩
  | .v (.box cs) => ⟨True, .v (.box cs), none⟩
  | .aptr r ver i off => ⟨True, .aptr r ver i off, none⟩
  | .v (.fn (.func f) caps) => ⟨True, .v (.fn (.func f) caps), none⟩
  | _ => bad

def idxSem (sz : Nat) (objs : Obs) : DV → DV → Eff
  | .v (.sl rows), .v (.int _ i) => ⟨0 ≤ i ∧ i < rows.length ∧ (rowAt rows i).length = sz, .tptr rows i 0, none⟩
  | .aref r ver, .v (.int _ i) => match objs r with
    | some (.arr ver' _ sz' rows) => ⟨ver = ver' ∧ sz' = sz ∧ 0 ≤ i ∧ i < rows.length, .aptr r ver i 0, none⟩
    | _ => bad
  | .asl r ver lo n, .v (.int _ i) => match objs r with
    | some (.arr ver' _ sz' rows) => ⟨ver = ver' ∧ sz' = sz ∧ 0 ≤ i ∧ i < n, .aptr r ver (lo + i) 0, none⟩
    | _ => bad
  | .bsl r n, .v (.int _ i) => ⟨0 ≤ i ∧ i < n, .ptr r (i.toNat * sz), none⟩
  | _, _ => bad

def arrAddrSem (len sz : Nat) : DV → DV → Eff
  | .ptr r off, .v (.int _ i) => ⟨0 ≤ i ∧ i < len, .ptr r (off + i.toNat * sz), none⟩
  | .tptr rows j off, .v (.int _ i) => ⟨0 ≤ i ∧ i < len, .tptr rows j (off + i.toNat * sz), none⟩
  | .bptr cs off, .v (.int _ i) => ⟨0 ≤ i ∧ i < len, .bptr cs (off + i.toNat * sz), none⟩
  | .v (.box cs), .v (.int _ i) => ⟨0 ≤ i ∧ i < len, .bptr cs (i.toNat * sz), none⟩
  | .aptr r ver j off, .v (.int _ i) => ⟨0 ≤ i ∧ i < len, .aptr r ver j (off + i.toNat * sz), none⟩
  | _, _ => bad

def aggCells : DV → Option (List DV)
  | .v (.agg cs) => some (cs.map .v)
  | .agg cs => some cs
  | _ => none

def fieldSem (off n : Nat) (agg : Bool) (x : DV) : Eff :=
  match aggCells x with
  | some cs => ⟨off + n ≤ cs.length ∧ (agg = true ∨ n = 1), if agg then .agg ((cs.drop off).take n) else cs.getD off .undef, none⟩
  | none => bad

def intOf? : DV → Option Int
  | .v (.int _ n) => some n
  | _ => none

def loOf : Option DV → Option Int
  | none => some 0
  | some d => intOf? d
def hiOf (n : Int) : Option DV → Option Int
  | none => some n
  | some d => intOf? d

def sliceSem (sz : Nat) (lo hi : Option DV) (objs : Obs) : DV → Eff
  | .v (.sl rows) =>
    match loOf lo, hiOf rows.length hi with
    | some l, some h => ⟨0 ≤ l ∧ l ≤ h ∧ h ≤ rows.length ∧ (∀ r ∈ rows, r.length = sz), .v (.sl ((rows.take h.toNat).drop l.toNat)), none⟩
    | _, _ => bad
  | .nil0 =>
    match loOf lo, hiOf 0 hi with
    | some l, some h => ⟨l = 0 ∧ h = 0, .nil0, none⟩
    | _, _ => bad
  | .aref r ver => match objs r with
    | some (.arr ver' _ sz' rows) => match loOf lo, hiOf rows.length hi with
      | some l, some h => ⟨ver = ver' ∧ sz' = sz ∧ 0 ≤ l ∧ l ≤ h ∧ h ≤ rows.length, .asl r ver l.toNat (h.toNat - l.toNat), none⟩
      | _, _ => bad
    | _ => bad
  | .asl r ver lo' n => match objs r with
    | some (.arr ver' _ sz' rows) => match loOf lo, hiOf n hi with
      | some l, some h => ⟨ver = ver' ∧ sz' = sz ∧ 0 ≤ l ∧ l ≤ h ∧ h ≤ n, .asl r ver (lo' + l.toNat) (h.toNat - l.toNat), none⟩
      | _, _ => bad
    | _ => bad
  | _ => bad

def extractSem (i : Nat) : DV → Eff
  | .v (.tup ts) => ⟨i < ts.length, .v (ts.getD i default), none⟩
  | .tup ds => ⟨i < ds.length, ds.getD i .undef, none⟩
  | _ => bad

def lenSem (objs : Obs) : DV → Eff
  | .v (.sl rows) => ⟨True, .v (.int .i64 rows.length), none⟩
  | .nil0 => ⟨True, .v (.int .i64 0), none⟩
  | .aref r ver => match objs r with
    | some (.arr ver' _ _ rows) => ⟨ver = ver', .v (.int .i64 rows.length), none⟩
    | _ => bad
  | .asl _ _ _ n => ⟨True, .v (.int .i64 n), none⟩
  | .bsl _ n => ⟨True, .v (.int .i64 n), none⟩
  | _ => bad

def lenSSem : DV → Eff
  | .v (.str s) => ⟨True, .v (.int .i64 s.size), none⟩
  | _ => bad

def minmaxSem (isMax : Bool) : DV → DV → Eff
  | .v (.int k a), .v (.int k' b) => ⟨k = k', .v (.int k (if isMax then max a b else min a b)), none⟩
  | _, _ => bad

/-- The rows of an append's second argument. -/
def srcRows (objs : Obs) : DV → Option (List (List T))
  | .v (.sl rows) => some rows
  | .nil0 => some []
  | .aref r ver => match objs r with
    | some (.arr ver' _ _ rows) => if ver = ver' then some rows else none
    | _ => none
  | .asl r ver lo n => match objs r with
    | some (.arr ver' _ _ rows) => if ver = ver' then some ((rows.drop lo).take n) else none
    | _ => none
  | .v (.raw (.slice _ 0 _)) => some []
  | _ => none

def roomOk (bytes n : Nat) : Prop := n * bytes ≤ 140737488355328 ∧ n ≤ 140737488355328

def appendSem (e sz bytes : Nat) (name : Nat) (objs : Obs) (x y : DV) : Eff :=
  match srcRows objs y with
  | none => bad
  | some ys =>
    match x with
    | .nil0 => ⟨(∀ r ∈ ys, r.length = sz) ∧ roomOk bytes ys.length, .aref name 0, some (name, .arr 0 e sz ys)⟩
    | .aref r ver => match objs r with
      | some (.arr ver' e' sz' rows) => ⟨ver = ver' ∧ e' = e ∧ sz' = sz ∧ (∀ r ∈ ys, r.length = sz) ∧ roomOk bytes (rows.length + ys.length), .aref r (ver + 1), some (r, .arr (ver + 1) e sz (rows ++ ys))⟩
      | _ => bad
    | .asl r ver 0 n => match objs r with
      | some (.arr ver' e' sz' rows) => ⟨ver = ver' ∧ e' = e ∧ sz' = sz ∧ (∀ r ∈ ys, r.length = sz) ∧ roomOk bytes (n + ys.length), .aref r (ver + 1), some (r, .arr (ver + 1) e sz (rows.take n ++ ys))⟩
      | _ => bad
    | _ => bad

def makeSem (e sz bytes : Nat) (zero : List T) (name : Nat) : DV → Eff
  | .v (.int _ n) => ⟨0 ≤ n ∧ zero.length = sz ∧ roomOk bytes n.toNat, .aref name 0, some (name, .arr 0 e sz (List.replicate n.toNat zero))⟩
  | _ => bad

/-- A zero cell as a box holds it. -/
def zeroC : T → DV
  | .sl [] => .nil0
  | t => .v t
/-- A slice made as a box: its cells may come to hold what is written. -/
def makeBSem (sz bytes : Nat) (zero : List T) (name : Nat) : DV → Eff
  | .v (.int _ n) => ⟨0 ≤ n ∧ zero.length = sz ∧ roomOk bytes n.toNat, .bsl name n.toNat, some (name, .box (List.replicate n.toNat (zero.map zeroC)).flatten)⟩
  | _ => bad

/-- A copy: into a row of an array. -/
def copySem (sz : Nat) (objs : Obs) (x y : DV) : Eff :=
  match srcRows objs y with
  | none => bad
  | some ys =>
    match x with
    | .aref r ver => match objs r with
      | some (.arr ver' e sz' rows) => ⟨ver = ver' ∧ sz' = sz ∧ (∀ r ∈ ys, r.length = sz), .v (.int .i64 (min ys.length rows.length : Nat)), some (r, .arr ver e sz (splice rows 0 (ys.take rows.length)))⟩
      | _ => bad
    | .asl r ver lo n => match objs r with
      | some (.arr ver' e sz' rows) => ⟨ver = ver' ∧ sz' = sz ∧ (∀ r ∈ ys, r.length = sz), .v (.int .i64 (min ys.length n : Nat)), some (r, .arr ver e sz (splice rows lo (ys.take n)))⟩
      | _ => bad
    | _ => bad

/-- A test against nil: of a slice (0), a pointer (1), a function value (2). -/
def isNilSem (kind : Nat) (neg : Bool) (objs : Obs) : DV → Eff
  | .v (.raw (.slice p _ _)) => ⟨kind = 0, .v (.bool (neg ^^ p.isNone)), none⟩
  | .v (.raw (.pointer p)) => ⟨kind = 1, .v (.bool (neg ^^ p.isNone)), none⟩
  | .v (.raw .nilFunc) => ⟨kind = 2, .v (.bool (neg ^^ true)), none⟩
  | .v (.sl rows) => ⟨kind = 0 ∧ rows ≠ [], .v (.bool (neg ^^ false)), none⟩
  | .v (.fn (.func _) _) => ⟨kind = 2, .v (.bool (neg ^^ false)), none⟩
  | .v (.box _) => ⟨kind = 1, .v (.bool (neg ^^ false)), none⟩
  | .ptr _ _ | .bptr _ _ | .tptr _ _ _ | .aptr _ _ _ _ => ⟨kind = 1, .v (.bool (neg ^^ false)), none⟩
  | .clo (.func _) _ => ⟨kind = 2, .v (.bool (neg ^^ false)), none⟩
  | .aref r ver => match objs r with
    | some (.arr ver' _ _ rows) => ⟨kind = 0 ∧ ver = ver' ∧ rows ≠ [], .v (.bool (neg ^^ false)), none⟩
    | _ => bad
  | _ => bad

def indexSSem : DV → DV → Eff
  | .v (.str s), .v (.int _ i) => ⟨0 ≤ i ∧ i < s.size, .v (.int .u8 (s.data.getD i.toNat 0).toNat), none⟩
  | _, _ => bad

/-- Does this tree fit the keys of a map? -/
def keyOk (shs : List Sh) (agg : Bool) : T → Prop
  | .agg as => agg = true ∧ fitsT shs as
  | t => agg = false ∧ fitsT shs [t]

/-- A key that holds no memory. -/
def allV : List DV → Option (List T)
  | [] => some []
  | .v t :: ds => (allV ds).map (t :: ·)
  | _ :: _ => none
def keyT : DV → Option T
  | .v t => some t
  | .agg cs => (allV cs).map .agg
  | _ => none

def findE (k : T) (es : List (Nat × T × DV)) : Option (Nat × T × DV) := es.find? fun e => eqTB k e.2.1
def setE (k : T) (y : DV) (clock : Nat) (es : List (Nat × T × DV)) : List (Nat × T × DV) :=
  match es.findIdx? fun e => eqTB k e.2.1 with
  | some i => es.modify i fun e => (e.1, e.2.1, y)
  | none => es ++ [(clock, k, y)]
def clockE (k : T) (clock : Nat) (es : List (Nat × T × DV)) : Nat :=
  match es.findIdx? fun e => eqTB k e.2.1 with
  | some _ => clock
  | none => clock + 1
def delE (k : T) (es : List (Nat × T × DV)) : List (Nat × T × DV) :=
  match es.findIdx? fun e => eqTB k e.2.1 with
  | some i => es.eraseIdx i
  | none => es

def lookupSem (shs : List Sh) (agg : Bool) (zero : DV) (ok : Bool) (objs : Obs) (x k : DV) : Eff :=
  match x, keyT k with
  | .mref r, some kt => match objs r with
    | some (.map shs' agg' _ es) => ⟨shs' = shs ∧ agg' = agg ∧ keyOk shs agg kt,
        match findE kt es with
        | some e => if ok then .tup [e.2.2, .v (.bool true)] else e.2.2
        | none => if ok then .tup [zero, .v (.bool false)] else zero, none⟩
    | _ => bad
  | _, _ => bad
def mapUpdSem (shs : List Sh) (agg : Bool) (objs : Obs) (x k y : DV) : Eff :=
  match x, keyT k with
  | .mref r, some kt => match objs r with
    | some (.map shs' agg' c es) => ⟨shs' = shs ∧ agg' = agg ∧ keyOk shs agg kt ∧ boxable y, .undef, some (r, .map shs agg (clockE kt c es) (setE kt y c es))⟩
    | _ => bad
  | _, _ => bad
/-- The entries, the key's among them. -/
def entE (k : T) (z : DV) (clock : Nat) (es : List (Nat × T × DV)) : List (Nat × T × DV) :=
  match es.findIdx? fun e => eqTB k e.2.1 with
  | some _ => es
  | none => es ++ [(clock, k, z)]
def entV (k : T) (z : DV) (clock : Nat) (es : List (Nat × T × DV)) : DV :=
  match findE k es with
  | some e => .tup [e.2.2, .v (.int .i64 e.1)]
  | none => .tup [z, .v (.int .i64 clock)]
def mapEntSem (shs : List Sh) (agg : Bool) (zero : DV) (objs : Obs) (x k : DV) : Eff :=
  match x, keyT k with
  | .mref r, some kt => match objs r with
    | some (.map shs' agg' c es) => ⟨shs' = shs ∧ agg' = agg ∧ keyOk shs agg kt,
        entV kt zero c es, some (r, .map shs agg (clockE kt c es) (entE kt zero c es))⟩
    | _ => bad
  | _, _ => bad
def setB (b : Int) (y : DV) (es : List (Nat × T × DV)) : Option (List (Nat × T × DV)) :=
  (es.findIdx? fun e => (e.1 : Int) == b).map fun i => es.modify i fun e => (e.1, e.2.1, y)
def entStSem (objs : Obs) (x s y : DV) : Eff :=
  match x, s with
  | .mref r, .v (.int _ b) => match objs r with
    | some (.map shs agg c es) => match setB b y es with
      | some es' => ⟨True, .undef, some (r, .map shs agg c es')⟩
      | none => bad
    | _ => bad
  | _, _ => bad
def mapDelSem (shs : List Sh) (agg : Bool) (objs : Obs) (x k : DV) : Eff :=
  match x, keyT k with
  | .mref r, some kt => match objs r with
    | some (.map shs' agg' c es) => ⟨shs' = shs ∧ agg' = agg ∧ keyOk shs agg kt, .v (.tup []), some (r, .map shs agg c (delE kt es))⟩
    | _ => bad
  | _, _ => bad
def lenMSem (objs : Obs) : DV → Eff
  | .mref r => match objs r with
    | some (.map _ _ _ es) => ⟨True, .v (.int .i64 es.length), none⟩
    | _ => bad
  | _ => bad
def rangeMSem (name : Nat) (objs : Obs) : DV → Eff
  | .mref r => match objs r with
    | some (.map _ _ c _) => ⟨True, .iter name, some (name, .iter r c [] c)⟩
    | _ => bad
  | _ => bad
def entryMSem (objs : Obs) : DV → Eff
  | .iter r => match objs r with
    | some (.iter m _ seen last) => match objs m, seen.getLast? with
      | some (.map _ _ c es), some b => match es.find? fun e => e.1 == b with
        | some e => ⟨c = last, .tup [.v e.2.1, e.2.2], none⟩
        | none => bad
      | _, _ => bad
    | _ => bad
  | _ => bad

def callSem (Γ : Env) (f : FuncId) (objs : Obs) (args : List DV) : Eff :=
  match Γ f with
  | some s => ⟨tOks s.scalar objs args ∧ s.pre (tOfs objs args), .v (s.fn (tOfs objs args)), none⟩
  | none => bad

mutual
/-- The names in a value. -/
def names : DV → List Nat
  | .ptr r _ | .aref r _ | .aptr r _ _ _ | .mref r | .iter r | .asl r _ _ _ | .bsl r _ => [r]
  | .agg cs | .tup cs | .clo _ cs => namesL cs
  | _ => []
def namesL : List DV → List Nat
  | [] => []
  | d :: ds => names d ++ namesL ds
end
/-- The objects that the arguments name. -/
def restr (objs : Obs) (args : List DV) : Obs := fun n => if n ∈ namesL args then objs n else none
/-- The call reads no other objects than its arguments name, and writes none. -/
def readOk (k : List DV → Obs → SRes) (args : List DV) (objs : Obs) : Prop :=
  ∀ objs', (∀ n ∈ namesL args, objs' n = objs n) → (k args objs').ok ∧ (k args objs').objs = objs' ∧ (k args objs').val = (k args (restr objs args)).val
def callRSem (Γ : Env) (f : FuncId) (objs : Obs) (args : List DV) : Eff :=
  match Γ f with
  | some s => match s.st with
    | some k => ⟨readOk k args objs, (k args (restr objs args)).val, none⟩
    | none => bad
  | none => bad
theorem callRSem_ext {Γ : Env} {f : FuncId} {objs objs' : Obs} {args : List DV} (h : ∀ n ∈ namesL args, objs' n = objs n) : callRSem Γ f objs' args = callRSem Γ f objs args := by
  have h1 : restr objs' args = restr objs args := by
    funext n
    unfold restr
    split
    · rename_i hn; exact h n hn
    · rfl
  have h2 : ∀ k, readOk k args objs' = readOk k args objs := by
    intro k
    unfold readOk
    rw [h1]
    apply propext
    constructor
    · exact fun H o ho => H o fun n hn => (ho n hn).trans (h n hn).symm
    · exact fun H o ho => H o fun n hn => (ho n hn).trans (h n hn)
  unfold callRSem
  simp only [h1, h2]

/-- A call that answers with a slice over new memory. -/
def callFSem (Γ : Env) (f : FuncId) (name : Nat) (objs : Obs) (args : List DV) : Eff :=
  match Γ f with
  | some s => match s.fresh, s.fn (tOfs objs args) with
    | some (e, sz), .sl rows => ⟨tOks s.lend objs args ∧ s.pre (tOfs objs args), .aref name 0, some (name, .arr 0 e sz rows)⟩
    | _, _ => bad
  | none => bad

/-- What an operation does. -/
def sem (Γ : Env) (d : DOp) (name : Nat) (ρ : Nat → DV) (objs : Obs) : Eff :=
  match d with
  | .mov x => ⟨True, x.ev ρ, none⟩
  | .pick c a b => match c.ev ρ with
    | .v (.bool t) => ⟨True, if t then a.ev ρ else b.ev ρ, none⟩
    | _ => bad
  | .alloc zero => ⟨True, .ptr name 0, some (name, .box zero)⟩
  | .box x => ⟨boxable (x.ev ρ), .ptr name 0, some (name, .box (cellsOf (x.ev ρ)))⟩
  | .build zero parts => ⟨fillOk zero.length (parts.map fun p => (p.1, p.2.1, p.2.2.ev ρ)), .agg (fillD zero (parts.map fun p => (p.1, p.2.1, p.2.2.ev ρ))), none⟩
  | .bslice len sz zero parts =>
    if len = 0 then ⟨parts = [], .nil0, none⟩ else
    ⟨fillOk (len * sz) (parts.map fun p => (p.1, p.2.1, p.2.2.ev ρ)) ∧ pureCells (fillD zero (parts.map fun p => (p.1, p.2.1, p.2.2.ev ρ))),
      .v (.sl (chunk sz len (tOfs (fun _ => none) (fillD zero (parts.map fun p => (p.1, p.2.1, p.2.2.ev ρ)))))), none⟩
  | .load n agg x => loadSem n agg objs (x.ev ρ)
  | .store n x y => storeSem n objs (y.ev ρ) (x.ev ρ)
  | .bin op x y => binSem op (x.ev ρ) (y.ev ρ)
  | .eqT neg agg shs x y => ⟨tOk true objs (x.ev ρ) ∧ tOk true objs (y.ev ρ) ∧ (eqSem neg agg shs (tOf objs (x.ev ρ)) (tOf objs (y.ev ρ))).ok, (eqSem neg agg shs (tOf objs (x.ev ρ)) (tOf objs (y.ev ρ))).val, none⟩
  | .un op x => unSem op (x.ev ρ)
  | .conv k x => match x.ev ρ with
    | .v (.int _ n) => ⟨True, .v (.int k (k.wrap n)), none⟩
    | _ => bad
  | .addOff k x => addOffSem k (x.ev ρ)
  | .nilCheck x => nilCheckSem (x.ev ρ)
  | .idxAddr sz x i => idxSem sz objs (x.ev ρ) (i.ev ρ)
  | .arrAddr len sz x i => arrAddrSem len sz (x.ev ρ) (i.ev ρ)
  | .field off n agg x => fieldSem off n agg (x.ev ρ)
  | .slice sz x lo hi => sliceSem sz (lo.map (·.ev ρ)) (hi.map (·.ev ρ)) objs (x.ev ρ)
  | .extract i x => extractSem i (x.ev ρ)
  | .call f args => callSem Γ f objs (args.map (·.ev ρ))
  | .callF f args => callFSem Γ f name objs (args.map (·.ev ρ))
  | .callR f args => callRSem Γ f objs (args.map (·.ev ρ))
  | .callS _ _ | .callv _ _ | .entryM _ => bad
  | .len x => lenSem objs (x.ev ρ)
  | .lenS x => lenSSem (x.ev ρ)
  | .minmax m x y => minmaxSem m (x.ev ρ) (y.ev ρ)
  | .append e sz bytes x y => appendSem e sz bytes name objs (x.ev ρ) (y.ev ρ)
  | .mkSlice e sz bytes zero n => makeSem e sz bytes zero name (n.ev ρ)
  | .mkSliceB e sz bytes zero n => makeBSem sz bytes zero name (n.ev ρ)
  | .mkFn f caps => ⟨cellables (caps.map (·.ev ρ)), if pureB (caps.map (·.ev ρ)) then .v (.fn f (tOfs (fun _ => none) (caps.map (·.ev ρ)))) else .clo f (caps.map (·.ev ρ)), none⟩
  | .mkMap shs agg => ⟨True, .mref name, some (name, .map shs agg 0 [])⟩
  | .lookup shs agg zero ok x k => lookupSem shs agg zero ok objs (x.ev ρ) (k.ev ρ)
  | .mapUpd shs agg x k y => mapUpdSem shs agg objs (x.ev ρ) (k.ev ρ) (y.ev ρ)
  | .mapDel shs agg x k => mapDelSem shs agg objs (x.ev ρ) (k.ev ρ)
  | .mapEnt shs agg z x k => mapEntSem shs agg z objs (x.ev ρ) (k.ev ρ)
  | .entSt x s y => entStSem objs (x.ev ρ) (s.ev ρ) (y.ev ρ)
  | .lenM x => lenMSem objs (x.ev ρ)
  | .rangeM x => rangeMSem name objs (x.ev ρ)
  | .copy sz x y => copySem sz objs (x.ev ρ) (y.ev ρ)
  | .isNil kind neg x => isNilSem kind neg objs (x.ev ρ)
  | .indexS x i => indexSSem (x.ev ρ) (i.ev ρ)
  | .fail => bad

/-- The operations that are told whole: calls that may write, calls of function values. -/
def is4 : DOp → Bool
  | .callS _ _ | .callv _ _ | .entryM _ => true
  | _ => false

structure SEff where
  ok : Prop
  val : DV
  objs : Obs
  todo : List (List T)

/-- What these do. -/
def semS (Γ : Env) (d : DOp) (ρ : Nat → DV) (objs : Obs) (todo : List (List T)) : SEff :=
  match d with
  | .callS f args => match Γ f with
    | some s => match s.st with
      | some k => ⟨(k (args.map (·.ev ρ)) objs).ok, (k (args.map (·.ev ρ)) objs).val, (k (args.map (·.ev ρ)) objs).objs, todo⟩
      | none => ⟨False, .undef, objs, todo⟩
    | none => ⟨False, .undef, objs, todo⟩
  | .callv x args => match x.ev ρ with
    | .v (.fn (.func f) caps) => match Γ f with
      | some s => match s.st with
        | some k => ⟨(k (args.map (·.ev ρ) ++ caps.map .v) objs).ok, (k (args.map (·.ev ρ) ++ caps.map .v) objs).val, (k (args.map (·.ev ρ) ++ caps.map .v) objs).objs, todo⟩
        | none => ⟨(callSem Γ f objs (args.map (·.ev ρ) ++ caps.map .v)).ok, (callSem Γ f objs (args.map (·.ev ρ) ++ caps.map .v)).val, objs, todo⟩
      | none => ⟨False, .undef, objs, todo⟩
    | .clo (.func f) caps => match Γ f with
      | some s => match s.st with
        | some k => ⟨(k (args.map (·.ev ρ) ++ caps) objs).ok, (k (args.map (·.ev ρ) ++ caps) objs).val, (k (args.map (·.ev ρ) ++ caps) objs).objs, todo⟩
        | none => ⟨False, .undef, objs, todo⟩
      | none => ⟨False, .undef, objs, todo⟩
    | .yld => match todo with
      | x :: rest => ⟨tOks false objs (args.map (·.ev ρ)) ∧ tOfs objs (args.map (·.ev ρ)) = x ∧ objs = (fun _ => none), .v (.bool true), objs, rest⟩
      | [] => ⟨False, .undef, objs, todo⟩
    | _ => ⟨False, .undef, objs, todo⟩
  | .entryM x => ⟨(entryMSem objs (x.ev ρ)).ok, (entryMSem objs (x.ev ρ)).val, objs, todo⟩
  | _ => ⟨False, .undef, objs, todo⟩

end Go.DM
/- The D-machine, part C: when a state of the machine describes a frame and a world of the model. Conditions: none. -/
set_option linter.unusedVariables false
set_option linter.unusedSectionVars false
namespace Go.DM
open Go.RowKit

/-- The world outside: what stood there before and may not be written is as it was. -/
structure Fr (base : Nat) (M : Nat → Prop) (w0 w : World) : Prop where
  os : w.os = w0.os
  tape : w.tape = w0.tape
  output : w.output = w0.output
  size0 : base ≤ w0.heap.size
  size : w0.heap.size ≤ w.heap.size
  block : ∀ k, k < base → ¬ M k → w.heap[k]? = w0.heap[k]?
  drawn : w0.drawn ≤ w.drawn

theorem Fr.refl {base : Nat} {M : Nat → Prop} {w : World} (h : base ≤ w.heap.size) : Fr base M w w := ⟨rfl, rfl, rfl, h, Nat.le_refl _, fun _ _ _ => rfl, Nat.le_refl _⟩
theorem Fr.trans {base : Nat} {M : Nat → Prop} {a b c : World} (h : Fr base M a b) (k : Fr base M b c) : Fr base M a c :=
  ⟨k.os.trans h.os, k.tape.trans h.tape, k.output.trans h.output, h.size0, Nat.le_trans h.size k.size, fun i hi hm => (k.block i hi hm).trans (h.block i hi hm), Nat.le_trans h.drawn k.drawn⟩

/-- Where the objects lie: the block of each box, the slice value of each array. -/
structure Loc where
  blk : Nat → Nat
  sl : Nat → Value
  yl : Nat := 0     -- the record of the loop whose body is handed to this iterator

/-- The block of a slice value with room. -/
def capBlock : Value → Option Nat
  | .slice (some a) _ c => if c = 0 then none else some a.block
  | _ => none

/-- The block of an object. -/
def Loc.own (L : Loc) (r : Nat) : Ob → Option Nat
  | .arr _ _ _ _ => capBlock (L.sl r)
  | _ => some (L.blk r)
/-- The blocks that may still be written: those of the callers, and those of the objects. -/
def WW (W : Nat → Prop) (objs : Obs) (L : Loc) (b : Nat) : Prop := W b ∨ ∃ r o, objs r = some o ∧ L.own r o = some b

section
variable (w : World) (W : Nat → Prop) (objs : Obs) (L : Loc)
mutual
def RelD : DV → Value → Prop
  | .undef, _ => True
  | .skip, x => x = Go.undef
  | .v t, x => RelT w (WW W objs L) t x
  | .nil0, x => ∃ a : Option Addr, x = .slice a 0 0
  | .ptr r off, x => (∃ cs, objs r = some (.box cs)) ∧ x = .pointer (some ⟨L.blk r, off, none⟩)
  | .aref r ver, x => (∃ (p : Option Addr) (n c : Nat), x = .slice p n c) ∧ ∃ ver' e sz rows, objs r = some (.arr ver' e sz rows) ∧ ver ≤ ver' ∧ (ver = ver' → x = L.sl r)
  | .tptr rows i off, x => ∃ b o sz, x = .pointer (some ⟨b, o + i.toNat * sz + off, none⟩) ∧ b < w.heap.size ∧ ¬ WW W objs L b ∧ RelRows w (WW W objs L) sz b o rows ∧ 0 ≤ i ∧ i < rows.length
  | .bptr cs off, x => ∃ b o, x = .pointer (some ⟨b, o + off, none⟩) ∧ b < w.heap.size ∧ ¬ WW W objs L b ∧ RelAt w (WW W objs L) b o cs
  | .aptr r ver i off, x => (∃ b o, x = .pointer (some ⟨b, o, none⟩)) ∧ ∃ ver' e sz rows, objs r = some (.arr ver' e sz rows) ∧ ver ≤ ver' ∧ (ver = ver' → ∃ g, capBlock (L.sl r) = some g ∧ x = .pointer (some ⟨g, i.toNat * sz + off, none⟩) ∧ 0 ≤ i ∧ i < rows.length)
  | .agg cs, x => ∃ vs, x = .agg vs ∧ RelDs cs vs.toList
  | .yld, x => x = .func (.yield L.yl) #[] #[]
  | .mref r, x => (∃ shs agg c es, objs r = some (.map shs agg c es)) ∧ x = .map (some (L.blk r))
  | .iter r, x => (∃ m s sn l, objs r = some (.iter m s sn l)) ∧ x = .pointer (some ⟨L.blk r, 0, none⟩)
  | .tup ds, x => ∃ vs, x = .tuple vs ∧ RelDa ds vs.toList
  | .asl r ver lo n, x => (∃ (p : Option Addr) (c : Nat), x = .slice p n c) ∧ ∃ ver' e sz rows, objs r = some (.arr ver' e sz rows) ∧ ver ≤ ver' ∧ (ver = ver' → lo + n ≤ rows.length ∧ ∃ p cap p2, L.sl r = .slice p rows.length cap ∧ x = .slice p2 n (cap - lo) ∧ (lo < cap → p2 = p.map (·.add (lo * sz))))
  | .clo f caps, x => ∃ vs, x = .func f #[] vs ∧ RelDs caps vs.toList
  | .bsl r n, x => (∃ cs, objs r = some (.box cs)) ∧ x = .slice (some ⟨L.blk r, 0, none⟩) n n
def RelDs : List DV → List Value → Prop
  | [], vs => vs = []
  | d :: ds, vs => ∃ x vs', vs = x :: vs' ∧ x.oneCell' = true ∧ RelD d x ∧ RelDs ds vs'
def RelDa : List DV → List Value → Prop
  | [], vs => vs = []
  | d :: ds, vs => ∃ x vs', vs = x :: vs' ∧ RelD d x ∧ RelDa ds vs'
end
/-- A map's entries. -/
def RelEs : List (Nat × T × DV) → List MapEntry → Prop
  | [], xs => xs = []
  | e :: es, xs => ∃ x xs', xs = x :: xs' ∧ x.born = e.1 ∧ RelT w (WW W objs L) e.2.1 x.key ∧ RelD w W objs L e.2.2 x.val ∧ RelEs es xs'

/-- An object and what lies in the world. -/
def ObOk (base : Nat) (M : Nat → Prop) (r : Nat) : Ob → Prop
  | .box cs => ∃ c e, w.heap[L.blk r]? = some (.cells c e (0, 0)) ∧ RelDs w W objs L cs c.toList ∧ (base ≤ L.blk r ∨ M (L.blk r))
  | .arr _ e sz rows => 0 < sz ∧ (∀ x ∈ rows, x.length = sz) ∧ (∀ g, capBlock (L.sl r) = some g → base ≤ g ∨ M g) ∧
      ((rows = [] ∧ ∃ a : Option Addr, L.sl r = .slice a 0 0) ∨
       ∃ g cap cur, L.sl r = .slice (some ⟨g, 0, none⟩) rows.length cap ∧ 0 < cap ∧ w.heap[g]? = some (.cells cur e (0, 0)) ∧ rows.length ≤ cap ∧ cap ≤ maxLen ∧ cur.size = cap * sz ∧
         RelL w (WW W objs L) rows.flatten (cur.toList.take (rows.length * sz)))
  | .map shs agg c es => ∃ arr, w.heap[L.blk r]? = some (.map arr c) ∧ RelEs w W objs L es arr.toList ∧ (∀ e ∈ es, keyOk shs agg e.2.1) ∧ (∀ e ∈ es, e.1 < c) ∧ (es.map (·.1)).Nodup ∧ (base ≤ L.blk r ∨ M (L.blk r))
  | .iter m s sn l => w.heap[L.blk r]? = some (.mapIter (some (L.blk m)) s sn.toArray l) ∧ (∃ shs agg c es, objs m = some (.map shs agg c es)) ∧ (base ≤ L.blk r ∨ M (L.blk r))
end


variable [Laid]
/-- The objects and the world fit. -/
structure RelO (base : Nat) (W M : Nat → Prop) (w0 : World) (objs : Obs) (w : World) (L : Loc) : Prop where
  fr : Fr base M w0 w
  ob : ∀ r o, objs r = some o → ObOk w W objs L base M r o
  apart : ∀ r r' o o' b, r ≠ r' → objs r = some o → objs r' = some o' → L.own r o = some b → L.own r' o' ≠ some b
  outer : ∀ r o b, objs r = some o → L.own r o = some b → ¬ W b
  under : ∀ b, W b → b < base
  gl : GOk w (WW W objs L)

/-- One step on: what was described before is described after. -/
structure Adv2 (W W' : Nat → Prop) (objs : Obs) (L : Loc) (w : World) (objs' : Obs) (L' : Loc) (w' : World) : Prop where
  keeps : Keeps (WW W objs L) w w'
  sub : ∀ b, b < w.heap.size → WW W' objs' L' b → WW W objs L b
  fix : ∀ r o, objs r = some o → o.kind ≠ 1 → L'.blk r = L.blk r ∧ ∃ o', objs' r = some o' ∧ o'.kind = o.kind
  arr : ∀ r ver e sz rows, objs r = some (.arr ver e sz rows) → ∃ ver' e' sz' rows', objs' r = some (.arr ver' e' sz' rows') ∧ ver ≤ ver' ∧ (ver' = ver → L'.sl r = L.sl r ∧ sz' = sz ∧ rows'.length = rows.length)
  yl : L'.yl = L.yl

theorem kind0 {o : Ob} (h : o.kind = 0) : ∃ cs, o = .box cs := by cases o <;> first | exact ⟨_, rfl⟩ | cases h
theorem kind2 {o : Ob} (h : o.kind = 2) : ∃ shs agg c es, o = .map shs agg c es := by cases o <;> first | exact ⟨_, _, _, _, rfl⟩ | cases h
theorem kind3 {o : Ob} (h : o.kind = 3) : ∃ m s sn l, o = .iter m s sn l := by cases o <;> first | exact ⟨_, _, _, _, rfl⟩ | cases h
section
variable {W W' : Nat → Prop} {objs : Obs} {L : Loc} {w : World} {objs' : Obs} {L' : Loc} {w' : World}
theorem Adv2.box (h : Adv2 W W' objs L w objs' L' w') (r : Nat) (cs : List DV) (hr : objs r = some (.box cs)) : L'.blk r = L.blk r ∧ ∃ cs', objs' r = some (.box cs') := by
  obtain ⟨h1, o', h2, h3⟩ := h.fix r _ hr (by simp [Ob.kind])
  obtain ⟨cs', rfl⟩ := kind0 h3
  exact ⟨h1, cs', h2⟩
theorem Adv2.mp (h : Adv2 W W' objs L w objs' L' w') (r : Nat) (hr : ∃ shs agg c es, objs r = some (.map shs agg c es)) : L'.blk r = L.blk r ∧ ∃ shs agg c es, objs' r = some (.map shs agg c es) := by
  obtain ⟨_, _, _, _, hr⟩ := hr
  obtain ⟨h1, o', h2, h3⟩ := h.fix r _ hr (by simp [Ob.kind])
  obtain ⟨a, b, c, d, rfl⟩ := kind2 h3
  exact ⟨h1, a, b, c, d, h2⟩
theorem Adv2.it (h : Adv2 W W' objs L w objs' L' w') (r : Nat) (hr : ∃ m s sn l, objs r = some (.iter m s sn l)) : L'.blk r = L.blk r ∧ ∃ m s sn l, objs' r = some (.iter m s sn l) := by
  obtain ⟨_, _, _, _, hr⟩ := hr
  obtain ⟨h1, o', h2, h3⟩ := h.fix r _ hr (by simp [Ob.kind])
  obtain ⟨a, b, c, d, rfl⟩ := kind3 h3
  exact ⟨h1, a, b, c, d, h2⟩
end

abbrev Adv (W : Nat → Prop) (objs : Obs) (L : Loc) (w : World) (objs' : Obs) (L' : Loc) (w' : World) : Prop := Adv2 W W objs L w objs' L' w'

theorem Adv.refl_of_keeps {W : Nat → Prop} {objs : Obs} {L : Loc} {w w' : World} (h : Keeps (WW W objs L) w w') : Adv W objs L w objs L w' :=
  ⟨h, fun _ _ x => x, fun _ o hr _ => ⟨rfl, o, hr, rfl⟩, fun _ ver e sz rows hr => ⟨ver, e, sz, rows, hr, Nat.le_refl _, fun _ => ⟨rfl, rfl, rfl⟩⟩, rfl⟩

mutual
theorem RelD.adv {W W' : Nat → Prop} {objs objs' : Obs} {L L' : Loc} {w w' : World} (h : Adv2 W W' objs L w objs' L' w') : ∀ (d : DV) (x : Value), RelD w W objs L d x → RelD w' W' objs' L' d x
  | .undef, x, r => by simp [RelD]
  | .skip, x, r => by simpa [RelD] using r
  | .v t, x, r => by
    simp only [RelD] at r ⊢
    exact RelT.keep h.keeps.toKeepsC h.sub t x r
  | .nil0, x, r => by simpa [RelD] using r
  | .ptr n off, x, r => by
    simp only [RelD] at r ⊢
    obtain ⟨⟨cs, hc⟩, hx⟩ := r
    have hb := h.box n cs hc
    exact ⟨hb.2, by rw [hb.1]; exact hx⟩
  | .aref n ver, x, r => by
    simp only [RelD] at r ⊢
    obtain ⟨hsh, ver', e, sz, rows, ho, hle, hx⟩ := r
    obtain ⟨ver2, e2, sz2, rows2, ho2, hle2, hs⟩ := h.arr n ver' e sz rows ho
    refine ⟨hsh, ver2, e2, sz2, rows2, ho2, Nat.le_trans hle hle2, fun hv => ?_⟩
    have h1 : ver2 = ver' := by omega
    rw [(hs h1).1]
    exact hx (by omega)
  | .tptr rows i off, x, r => by
    simp only [RelD] at r ⊢
    obtain ⟨b, o, sz, hx, hb, hn, hr, h0, h1⟩ := r
    exact ⟨b, o, sz, hx, Nat.lt_of_lt_of_le hb h.keeps.size, fun c => hn (h.sub b hb c), RelRows.keep h.keeps.toKeepsC h.sub hb hn sz o rows hr, h0, h1⟩
  | .bptr cs off, x, r => by
    simp only [RelD] at r ⊢
    obtain ⟨b, o, hx, hb, hn, hr⟩ := r
    exact ⟨b, o, hx, Nat.lt_of_lt_of_le hb h.keeps.size, fun c => hn (h.sub b hb c), RelAt.keep h.keeps.toKeepsC h.sub hb hn o cs hr⟩
  | .aptr n ver i off, x, r => by
    simp only [RelD] at r ⊢
    obtain ⟨hsh, ver', e, sz, rows, ho, hle, hx⟩ := r
    obtain ⟨ver2, e2, sz2, rows2, ho2, hle2, hs⟩ := h.arr n ver' e sz rows ho
    refine ⟨hsh, ver2, e2, sz2, rows2, ho2, Nat.le_trans hle hle2, fun hv => ?_⟩
    have h1 : ver2 = ver' := by omega
    obtain ⟨g, hg, hp, h0, hl⟩ := hx (by omega)
    obtain ⟨s1, s2, s3⟩ := hs h1
    exact ⟨g, by rw [s1]; exact hg, by rw [s2]; exact hp, h0, by rw [s3]; exact hl⟩
  | .agg cs, x, r => by
    simp only [RelD] at r ⊢
    obtain ⟨vs, hv, hr⟩ := r
    exact ⟨vs, hv, RelDs.adv h cs _ hr⟩
  | .yld, x, r => by simp only [RelD] at r ⊢; rw [h.yl]; exact r
  | .mref n, x, r => by
    simp only [RelD] at r ⊢
    have := h.mp n r.1
    exact ⟨this.2, by rw [this.1]; exact r.2⟩
  | .iter n, x, r => by
    simp only [RelD] at r ⊢
    have := h.it n r.1
    exact ⟨this.2, by rw [this.1]; exact r.2⟩
  | .tup ds, x, r => by
    simp only [RelD] at r ⊢
    obtain ⟨vs, hv, hr⟩ := r
    exact ⟨vs, hv, RelDa.adv h ds _ hr⟩
  | .clo f ds, x, r => by
    simp only [RelD] at r ⊢
    obtain ⟨vs, hv, hr⟩ := r
    exact ⟨vs, hv, RelDs.adv h ds _ hr⟩
  | .bsl n m, x, r => by
    simp only [RelD] at r ⊢
    obtain ⟨⟨cs, hc⟩, hx⟩ := r
    have hb := h.box n cs hc
    exact ⟨hb.2, by rw [hb.1]; exact hx⟩
  | .asl n ver lo m, x, r => by
    simp only [RelD] at r ⊢
    obtain ⟨hsh, ver', e, sz, rows, ho, hle, hx⟩ := r
    obtain ⟨ver2, e2, sz2, rows2, ho2, hle2, hs⟩ := h.arr n ver' e sz rows ho
    refine ⟨hsh, ver2, e2, sz2, rows2, ho2, Nat.le_trans hle hle2, fun hv => ?_⟩
    have h1 : ver2 = ver' := by omega
    obtain ⟨k1, p, cap, p2, k2, k3, k4⟩ := hx (by omega)
    obtain ⟨s1, s2, s3⟩ := hs h1
    exact ⟨by rw [s3]; exact k1, p, cap, p2, by rw [s1, s3]; exact k2, k3, by rw [s2]; exact k4⟩
theorem RelDs.adv {W W' : Nat → Prop} {objs objs' : Obs} {L L' : Loc} {w w' : World} (h : Adv2 W W' objs L w objs' L' w') : ∀ (ds : List DV) (xs : List Value), RelDs w W objs L ds xs → RelDs w' W' objs' L' ds xs
  | [], xs, r => by simpa [RelDs] using r
  | d :: ds, xs, r => by
    simp only [RelDs] at r ⊢
    obtain ⟨x, xs', hx, h1, hr, hrs⟩ := r
    exact ⟨x, xs', hx, h1, RelD.adv h d x hr, RelDs.adv h ds xs' hrs⟩
theorem RelDa.adv {W W' : Nat → Prop} {objs objs' : Obs} {L L' : Loc} {w w' : World} (h : Adv2 W W' objs L w objs' L' w') : ∀ (ds : List DV) (xs : List Value), RelDa w W objs L ds xs → RelDa w' W' objs' L' ds xs
  | [], xs, r => by simpa [RelDa] using r
  | d :: ds, xs, r => by
    simp only [RelDa] at r ⊢
    obtain ⟨x, xs', hx, hr, hrs⟩ := r
    exact ⟨x, xs', hx, RelD.adv h d x hr, RelDa.adv h ds xs' hrs⟩
end
theorem RelEs.adv {W W' : Nat → Prop} {objs objs' : Obs} {L L' : Loc} {w w' : World} (h : Adv2 W W' objs L w objs' L' w') : ∀ (es : List (Nat × T × DV)) (xs : List MapEntry), RelEs w W objs L es xs → RelEs w' W' objs' L' es xs
  | [], xs, r => by simpa [RelEs] using r
  | e :: es, xs, r => by
    simp only [RelEs] at r ⊢
    obtain ⟨x, xs', hx, h0, h1, hr, hrs⟩ := r
    exact ⟨x, xs', hx, h0, RelT.keep h.keeps.toKeepsC h.sub _ _ h1, RelD.adv h _ _ hr, RelEs.adv h es xs' hrs⟩

section
variable {w : World} {W : Nat → Prop} {objs : Obs} {L : Loc}
theorem RelDs.length : ∀ {ds : List DV} {vs : List Value}, RelDs w W objs L ds vs → vs.length = ds.length
  | [], _, h => by simp only [RelDs] at h; simp [h]
  | _ :: ds, _, h => by
    simp only [RelDs] at h
    obtain ⟨v, vs', rfl, _, _, hr⟩ := h
    simp [RelDs.length hr]
theorem RelDs.get : ∀ {ds : List DV} {vs : List Value} {i : Nat} {d : DV}, RelDs w W objs L ds vs → ds[i]? = some d → ∃ v, vs[i]? = some v ∧ v.oneCell' = true ∧ RelD w W objs L d v
  | [], _, _, _, _, h => by simp at h
  | x :: xs, _, 0, t, hr, h => by
    simp only [RelDs] at hr
    obtain ⟨v, vs', rfl, h1, h2, _⟩ := hr
    simp only [List.getElem?_cons_zero, Option.some.injEq] at h
    subst h
    exact ⟨v, rfl, h1, h2⟩
  | x :: xs, _, i + 1, t, hr, h => by
    simp only [RelDs] at hr
    obtain ⟨v, vs', rfl, _, _, hr⟩ := hr
    simpa using RelDs.get hr (by simpa using h)
theorem RelDs.append : ∀ {ds ds' : List DV} {vs vs' : List Value}, RelDs w W objs L ds vs → RelDs w W objs L ds' vs' → RelDs w W objs L (ds ++ ds') (vs ++ vs')
  | [], _, _, _, h, h' => by simp only [RelDs] at h; subst h; simpa using h'
  | d :: ds, _, _, _, h, h' => by
    simp only [RelDs] at h
    obtain ⟨v, vs', rfl, h1, h2, hr⟩ := h
    simp only [List.cons_append, RelDs]
    exact ⟨v, _, rfl, h1, h2, RelDs.append hr h'⟩
theorem RelDs.take (n : Nat) {ds : List DV} {vs : List Value} (h : RelDs w W objs L ds vs) : RelDs w W objs L (ds.take n) (vs.take n) := by
  induction n generalizing ds vs with
  | zero => simp [RelDs]
  | succ n ih =>
    cases ds with
    | nil => simp only [RelDs] at h; subst h; simp [RelDs]
    | cons d ds =>
      simp only [RelDs] at h
      obtain ⟨v, vs', rfl, h1, h2, hr⟩ := h
      simp only [List.take_succ_cons, RelDs]
      exact ⟨v, _, rfl, h1, h2, ih hr⟩
theorem RelDs.drop (n : Nat) {ds : List DV} {vs : List Value} (h : RelDs w W objs L ds vs) : RelDs w W objs L (ds.drop n) (vs.drop n) := by
  induction n generalizing ds vs with
  | zero => simpa using h
  | succ n ih =>
    cases ds with
    | nil => simp only [RelDs] at h; subst h; simp [RelDs]
    | cons d ds =>
      simp only [RelDs] at h
      obtain ⟨v, vs', rfl, h1, h2, hr⟩ := h
      simpa using ih hr
theorem RelL.append {ts ts' : List T} : ∀ {vs vs' : List Value}, RelL w W ts vs → RelL w W ts' vs' → RelL w W (ts ++ ts') (vs ++ vs') := by
  induction ts with
  | nil => intro vs vs' h h'; simp only [RelL] at h; subst h; simpa using h'
  | cons d ds ih =>
    intro vs vs' h h'
    simp only [RelL] at h
    obtain ⟨v, vs', rfl, h1, h2, hr⟩ := h
    simp only [List.cons_append, RelL]
    exact ⟨v, _, rfl, h1, h2, ih hr h'⟩
theorem RelDs.of_relL : ∀ {ts : List T} {vs : List Value}, RelL w (WW W objs L) ts vs → RelDs w W objs L (ts.map .v) vs
  | [], _, h => by simpa [RelL, RelDs] using h
  | t :: ts, _, h => by
    simp only [RelL] at h
    obtain ⟨v, vs', rfl, h1, h2, hr⟩ := h
    simp only [List.map_cons, RelDs]
    exact ⟨v, vs', rfl, h1, by simpa [RelD] using h2, RelDs.of_relL hr⟩
/-- The cells of a value. -/
theorem RelD.cells {d : DV} {x : Value} (h : RelD w W objs L d x) (hb : boxable d) : RelDs w W objs L (cellsOf d) x.cells.toList := by
  have one : ∀ {d : DV} {x : Value}, cellsOf d = [d] → x.oneCell' = true → RelD w W objs L d x → RelDs w W objs L (cellsOf d) x.cells.toList := by
    intro d x hc h1 h
    rw [hc]
    simp only [RelDs]
    refine ⟨x, [], ?_, h1, h, rfl⟩
    cases x <;> first | rfl | (simp [Value.oneCell'] at h1)
  cases d with
  | undef => exact hb.elim
  | skip => exact hb.elim
  | nil0 => obtain ⟨a, rfl⟩ := (by simpa only [RelD] using h); exact one rfl rfl (by simp only [RelD]; exact ⟨a, rfl⟩)
  | ptr r off => have h' := h; simp only [RelD] at h'; obtain ⟨_, rfl⟩ := h'; exact one rfl rfl h
  | aref r ver => have h' := h; simp only [RelD] at h'; obtain ⟨⟨p, n, c, rfl⟩, _⟩ := h'; exact one rfl rfl h
  | tptr rows i off => have h' := h; simp only [RelD] at h'; obtain ⟨b, o, sz, rfl, _⟩ := h'; exact one rfl rfl h
  | bptr cs off => have h' := h; simp only [RelD] at h'; obtain ⟨b, o, rfl, _⟩ := h'; exact one rfl rfl h
  | aptr r ver i off => have h' := h; simp only [RelD] at h'; obtain ⟨⟨b, o, rfl⟩, _⟩ := h'; exact one rfl rfl h
  | agg cs => simp only [RelD] at h; obtain ⟨vs, rfl, h⟩ := h; simpa [cellsOf, Value.cells] using h
  | yld => have h' := h; simp only [RelD] at h'; subst h'; exact one rfl rfl h
  | mref r => have h' := h; simp only [RelD] at h'; obtain ⟨_, rfl⟩ := h'; exact one rfl rfl h
  | iter r => have h' := h; simp only [RelD] at h'; obtain ⟨_, rfl⟩ := h'; exact one rfl rfl h
  | tup ds => exact hb.elim
  | clo f ds => have h' := h; simp only [RelD] at h'; obtain ⟨vs, rfl, _⟩ := h'; exact one rfl rfl h
  | asl r ver lo n => have h' := h; simp only [RelD] at h'; obtain ⟨⟨p, c, rfl⟩, _⟩ := h'; exact one rfl rfl h
  | bsl r n => have h' := h; simp only [RelD] at h'; obtain ⟨_, rfl⟩ := h'; exact one rfl rfl h
  | v t =>
    cases t with
    | agg cs => simp only [RelD, RelT] at h; obtain ⟨vs, rfl, h⟩ := h; simpa [cellsOf, Value.cells] using RelDs.of_relL h
    | tup ts => exact hb.elim
    | bool b => have h' := h; simp only [RelD, RelT] at h'; subst h'; exact one rfl rfl h
    | int k n => have h' := h; simp only [RelD, RelT] at h'; subst h'; exact one rfl rfl h
    | str s => have h' := h; simp only [RelD, RelT] at h'; subst h'; exact one rfl rfl h
    | sl rows =>
      have h' := h
      simp only [RelD, RelT] at h'
      rcases h' with ⟨_, a, c, rfl⟩ | ⟨b, o, cap, sz, rfl, _⟩ <;> exact one rfl rfl h
    | fn f caps => have h' := h; simp only [RelD, RelT] at h'; obtain ⟨vs, rfl, _⟩ := h'; exact one rfl rfl h
    | box cs => have h' := h; simp only [RelD, RelT] at h'; obtain ⟨b, o, rfl, _⟩ := h'; exact one rfl rfl h
    | raw y => have h' := h; simp only [RelD, RelT] at h'; subst h'; exact one rfl hb h
end

theorem ObOk.lt {base : Nat} {M : Nat → Prop} {w : World} {W : Nat → Prop} {objs : Obs} {L : Loc} {r : Nat} {o : Ob} (h : ObOk w W objs L base M r o) {b : Nat} (hb : L.own r o = some b) : b < w.heap.size := by
  cases o with
  | box cs =>
    obtain ⟨c, e, hc, _⟩ := h
    simp only [Loc.own, Option.some.injEq] at hb
    subst hb
    exact (Array.getElem?_eq_some_iff.1 hc).1
  | arr ver e sz rows =>
    obtain ⟨_, _, _, h⟩ := h
    simp only [Loc.own] at hb
    rcases h with ⟨_, a, ha⟩ | ⟨g, cap, cur, hv, hp, hg, _⟩
    · rw [ha] at hb; cases a <;> simp [capBlock] at hb
    · rw [hv] at hb
      simp only [capBlock, if_neg (Nat.pos_iff_ne_zero.1 hp), Option.some.injEq] at hb
      subst hb
      exact (Array.getElem?_eq_some_iff.1 hg).1
  | map shs agg c es =>
    obtain ⟨arr, hc, _⟩ := h
    simp only [Loc.own, Option.some.injEq] at hb
    subst hb
    exact (Array.getElem?_eq_some_iff.1 hc).1
  | iter m s sn l =>
    obtain ⟨hc, _⟩ := h
    simp only [Loc.own, Option.some.injEq] at hb
    subst hb
    exact (Array.getElem?_eq_some_iff.1 hc).1
theorem ObOk.reach {base : Nat} {M : Nat → Prop} {w : World} {W : Nat → Prop} {objs : Obs} {L : Loc} {r : Nat} {o : Ob} (h : ObOk w W objs L base M r o) {b : Nat} (hb : L.own r o = some b) : base ≤ b ∨ M b := by
  cases o with
  | box cs =>
    obtain ⟨c, e, hc, _, hm⟩ := h
    simp only [Loc.own, Option.some.injEq] at hb
    subst hb
    exact hm
  | arr ver e sz rows =>
    obtain ⟨_, _, hm, _⟩ := h
    exact hm b hb
  | map shs agg c es =>
    obtain ⟨arr, hc, _, _, _, _, hm⟩ := h
    simp only [Loc.own, Option.some.injEq] at hb
    subst hb
    exact hm
  | iter m s sn l =>
    obtain ⟨hc, _, hm⟩ := h
    simp only [Loc.own, Option.some.injEq] at hb
    subst hb
    exact hm

theorem ObOk.keep {base : Nat} {M : Nat → Prop} {w w' : World} {W : Nat → Prop} {objs objs' : Obs} {L L' : Loc} {r : Nat} {o : Ob} (ha : Adv W objs L w objs' L' w')
    (h : ObOk w W objs L base M r o) (hown : L'.blk r = L.blk r ∧ L'.sl r = L.sl r) (hblk : ∀ b, L.own r o = some b → w'.heap[b]? = w.heap[b]?) : ObOk w' W objs' L' base M r o := by
  cases o with
  | box cs =>
    obtain ⟨c, e, hc, hr, hm⟩ := h
    refine ⟨c, e, ?_, RelDs.adv ha cs _ hr, ?_⟩
    · rw [hown.1, hblk _ rfl]; exact hc
    · rw [hown.1]; exact hm
  | arr ver e sz rows =>
    obtain ⟨hsz, hrows, hm, h⟩ := h
    refine ⟨hsz, hrows, by rw [hown.2]; exact hm, ?_⟩
    rw [hown.2]
    rcases h with h | ⟨g, cap, cur, hv, hp, hg, h1, h2, h3, h4⟩
    · exact .inl h
    · refine .inr ⟨g, cap, cur, hv, hp, ?_, h1, h2, h3, RelL.keep ha.keeps.toKeepsC ha.sub _ _ h4⟩
      rw [hblk g (by simp [Loc.own, hv, capBlock, Nat.pos_iff_ne_zero.1 hp])]
      exact hg
  | map shs agg c es =>
    obtain ⟨arr, hc, hr, k1, k2, k3, hm⟩ := h
    refine ⟨arr, ?_, RelEs.adv ha es _ hr, k1, k2, k3, ?_⟩
    · rw [hown.1, hblk _ rfl]; exact hc
    · rw [hown.1]; exact hm
  | iter m s sn l =>
    obtain ⟨hc, hmp, hm⟩ := h
    have := ha.mp m hmp
    refine ⟨?_, this.2, ?_⟩
    · rw [hown.1, this.1, hblk _ rfl]; exact hc
    · rw [hown.1]; exact hm

/-- What no object's block is. -/
def Obj.plain : Obj → Prop
  | .cells _ _ _ | .map _ _ | .mapIter _ _ _ _ => True
  | _ => False
theorem ObOk.cells {base : Nat} {M : Nat → Prop} {w : World} {W : Nat → Prop} {objs : Obs} {L : Loc} {r : Nat} {o : Ob} (h : ObOk w W objs L base M r o) {b : Nat} (hb : L.own r o = some b) : ∃ x, w.heap[b]? = some x ∧ Obj.plain x := by
  cases o with
  | box cs =>
    obtain ⟨c, e, hc, _⟩ := h
    simp only [Loc.own, Option.some.injEq] at hb
    subst hb
    exact ⟨_, hc, trivial⟩
  | map shs agg c es =>
    obtain ⟨arr, hc, _⟩ := h
    simp only [Loc.own, Option.some.injEq] at hb
    subst hb
    exact ⟨_, hc, trivial⟩
  | iter m s sn l =>
    obtain ⟨hc, _⟩ := h
    simp only [Loc.own, Option.some.injEq] at hb
    subst hb
    exact ⟨_, hc, trivial⟩
  | arr ver e sz rows =>
    obtain ⟨_, _, _, h⟩ := h
    simp only [Loc.own] at hb
    rcases h with ⟨_, a, ha⟩ | ⟨g, cap, cur, hv, hp, hg, _⟩
    · rw [ha] at hb; cases a <;> simp [capBlock] at hb
    · rw [hv] at hb
      simp only [capBlock, if_neg (Nat.pos_iff_ne_zero.1 hp), Option.some.injEq] at hb
      subst hb
      exact ⟨_, hg, trivial⟩

def putO (objs : Obs) : Option (Nat × Ob) → Obs
  | none => objs
  | some (r, o) => fun x => if x = r then some o else objs x

/-- One object is laid or turned. -/
theorem RelO.put {base : Nat} {W M : Nat → Prop} {w0 w w' : World} {objs : Obs} {L L' : Loc} {r : Nat} {o' : Ob} (h : RelO base W M w0 objs w L)
    (hfr : Fr base M w0 w') (hsz : w.heap.size ≤ w'.heap.size)
    (hL : ∀ x, x ≠ r → L'.blk x = L.blk x ∧ L'.sl x = L.sl x) (hyl : L'.yl = L.yl)
    (hheap : ∀ b, b < w.heap.size → (∀ o, objs r = some o → L.own r o ≠ some b) → w'.heap[b]? = w.heap[b]?)
    (hnew : ∀ b, L'.own r o' = some b → (∃ o, objs r = some o ∧ L.own r o = some b) ∨ w.heap.size ≤ b)
    (hfix : ∀ o, objs r = some o → o.kind ≠ 1 → L'.blk r = L.blk r ∧ o'.kind = o.kind)
    (harr : ∀ ver e sz rows, objs r = some (.arr ver e sz rows) → ∃ ver' e' sz' rows', o' = .arr ver' e' sz' rows' ∧ ver ≤ ver' ∧ (ver' = ver → L'.sl r = L.sl r ∧ sz' = sz ∧ rows'.length = rows.length))
    (hob : Adv W objs L w (putO objs (some (r, o'))) L' w' → ObOk w' W (putO objs (some (r, o'))) L' base M r o') :
    RelO base W M w0 (putO objs (some (r, o'))) w' L' ∧ Adv W objs L w (putO objs (some (r, o'))) L' w' := by
  have hown : ∀ x (o : Ob), x ≠ r → L'.own x o = L.own x o := fun x o hx => by
    have := hL x hx
    cases o <;> simp [Loc.own, this.1, this.2]
  have hother : ∀ x o b, x ≠ r → objs x = some o → L.own x o = some b → w'.heap[b]? = w.heap[b]? := fun x o b hx ho hb =>
    hheap b ((h.ob x o ho).lt hb) fun o2 ho2 hb2 => h.apart x r o o2 b hx ho ho2 hb hb2
  have hnon : ∀ (b : Nat) x, w.heap[b]? = some x → ¬ Obj.plain x → w'.heap[b]? = some x := fun b x hb hx => by
    refine (hheap b (Array.getElem?_eq_some_iff.1 hb).1 fun o ho hb2 => ?_).trans hb
    obtain ⟨y, hc, hy⟩ := (h.ob r o ho).cells hb2
    rw [hc] at hb
    cases hb
    exact hx hy
  have adv : Adv W objs L w (putO objs (some (r, o'))) L' w' := by
    refine ⟨⟨⟨hsz, fun b c e fr hb hn => ?_⟩, fun b hb => hnon b _ hb (fun e => e), fun b r hb => hnon b _ hb (fun e => e)⟩, fun b hb hw => ?_, fun x o hx hk => ?_, fun x ver e sz rows hx => ?_, hyl⟩
    · exact (hheap b (Array.getElem?_eq_some_iff.1 hb).1 fun o2 ho2 hb2 => hn (.inr ⟨r, o2, ho2, hb2⟩)).trans hb
    · rcases hw with hw | ⟨x, o, ho, hb2⟩
      · exact .inl hw
      · by_cases hx : x = r
        · subst hx
          simp only [putO, if_true] at ho
          obtain rfl : o' = o := by simpa using ho
          rcases hnew b hb2 with ⟨o2, ho2, hb3⟩ | hge
          · exact .inr ⟨x, o2, ho2, hb3⟩
          · omega
        · simp only [putO, if_neg hx] at ho
          exact .inr ⟨x, o, ho, by rw [← hown x o hx]; exact hb2⟩
    · by_cases hxr : x = r
      · subst hxr
        obtain ⟨h1, h2⟩ := hfix o hx hk
        exact ⟨h1, o', by simp [putO], h2⟩
      · exact ⟨(hL x hxr).1, o, by simp [putO, hxr, hx], rfl⟩
    · by_cases hxr : x = r
      · subst hxr
        obtain ⟨ver', e', sz', rows', rfl, h2, h3⟩ := harr ver e sz rows hx
        exact ⟨ver', e', sz', rows', by simp [putO], h2, h3⟩
      · exact ⟨ver, e, sz, rows, by simp [putO, hxr, hx], Nat.le_refl _, fun _ => ⟨(hL x hxr).2, rfl, rfl⟩⟩
  refine ⟨⟨hfr, fun x o ho => ?_, fun x x' o o2 b hne ho ho2 hb hb2 => ?_, fun x o b ho hb hw => ?_, h.under, h.gl.keep adv.keeps.toKeepsC adv.sub⟩, adv⟩
  · by_cases hx : x = r
    · subst hx
      simp only [putO, if_true] at ho
      obtain rfl : o' = o := by simpa using ho
      exact hob adv
    · simp only [putO, if_neg hx] at ho
      exact ObOk.keep adv (h.ob x o ho) (hL x hx) fun b hb => hother x o b hx ho hb
  · by_cases hx : x = r
    · subst hx
      simp only [putO, if_true] at ho
      obtain rfl : o' = o := by simpa using ho
      have hx' : x' ≠ x := fun e => hne e.symm
      simp only [putO, if_neg hx'] at ho2
      rw [hown x' o2 hx'] at hb2
      rcases hnew b hb with ⟨o3, ho3, hb3⟩ | hge
      · exact h.apart x' x o2 o3 b hx' ho2 ho3 hb2 hb3
      · have := (h.ob x' o2 ho2).lt hb2
        omega
    · simp only [putO, if_neg hx] at ho
      rw [hown x o hx] at hb
      by_cases hx' : x' = r
      · subst hx'
        simp only [putO, if_true] at ho2
        obtain rfl : o' = o2 := by simpa using ho2
        rcases hnew b hb2 with ⟨o3, ho3, hb3⟩ | hge
        · exact h.apart x x' o o3 b hne ho ho3 hb hb3
        · have := (h.ob x o ho).lt hb
          omega
      · simp only [putO, if_neg hx'] at ho2
        rw [hown x' o2 hx'] at hb2
        exact h.apart x x' o o2 b hne ho ho2 hb hb2
  · by_cases hx : x = r
    · subst hx
      simp only [putO, if_true] at ho
      obtain rfl : o' = o := by simpa using ho
      rcases hnew b hb with ⟨o3, ho3, hb3⟩ | hge
      · exact h.outer x o3 b ho3 hb3 hw
      · have h1 := h.under b hw
        have h2 := h.fr.size0
        have h3 := h.fr.size
        omega
    · simp only [putO, if_neg hx] at ho
      rw [hown x o hx] at hb
      exact h.outer x o b ho hb hw

theorem GOk.start {w : World} {W : Nat → Prop} {L : Loc} (h : GOk w W) : GOk w (WW W (fun _ => none) L) :=
  h.keep (Keeps.refl W w).toKeepsC fun b _ hw => by
    rcases hw with hw | ⟨r, o, hr, _⟩
    · exact hw
    · cases hr
/-- The world grows, nothing else. -/
theorem RelO.grow {base : Nat} {W M : Nat → Prop} {w0 w w' : World} {objs : Obs} {L : Loc} (h : RelO base W M w0 objs w L) (hb : BelD w.heap.size w w') :
    RelO base W M w0 objs w' L ∧ Adv W objs L w objs L w' := by
  have adv : Adv W objs L w objs L w' := Adv.refl_of_keeps (Keeps.of_below hb.toBelow)
  have hle : base ≤ w.heap.size := Nat.le_trans h.fr.size0 h.fr.size
  refine ⟨⟨h.fr.trans ⟨hb.os, hb.tape, hb.output, hle, hb.size, fun k hk _ => hb.block k (by omega), hb.drawn⟩, fun r o ho => ?_, h.apart, h.outer, h.under, h.gl.keep adv.keeps.toKeepsC adv.sub⟩, adv⟩
  exact ObOk.keep adv (h.ob r o ho) ⟨rfl, rfl⟩ fun b hb2 => hb.block b ((h.ob r o ho).lt hb2)

end Go.DM
/- The D-machine, part D: how the model's operations are read as the machine's, and that each does in the model what the machine says. Conditions: none. -/
namespace Go.DM
open Go.RowKit
set_option linter.unusedSimpArgs false
set_option linter.unusedVariables false
set_option linter.unusedSectionVars false

def constD : Value → Option DV
  | .int k n => some (.v (.int k n))
  | .bool b => some (.v (.bool b))
  | .string s => some (.v (.str s))
  | .slice none 0 0 => some .nil0
  | .pointer none => some (.v (.raw (.pointer none)))
  | .nilFunc => some (.v (.raw .nilFunc))
  | .nilIface => some (.v (.raw .nilIface))
  | .map none => some (.v (.raw (.map none)))
  | _ => none
def constT : Value → Option T
  | .int k n => some (.int k n)
  | .bool b => some (.bool b)
  | .string s => some (.str s)
  | .slice none 0 0 => some (.sl [])
  | .pointer none => some (.raw (.pointer none))
  | .nilFunc => some (.raw .nilFunc)
  | .nilIface => some (.raw .nilIface)
  | .map none => some (.raw (.map none))
  | _ => none

variable [Laid]
def Opd.of : Operand → Option Opd
  | .tmp t => some (.tmp t)
  | .const v => (constD v).map .con
  | .func f => some (.con (.v (.fn (.func f) [])))
  | .global g => (Laid.cells.find? fun p => p.1 == g).map fun p => .con (.bptr p.2 0)

section
variable {w : World} {W : Nat → Prop} {objs : Obs} {L : Loc}
theorem constD_rel : ∀ {x : Value} {d : DV}, constD x = some d → RelD w W objs L d x ∧ x.oneCell' = true := by
  intro x d h
  unfold constD at h
  split at h <;> simp only [Option.some.injEq, reduceCtorEq] at h <;> subst h <;> simp [RelD, RelT, Value.oneCell']
theorem constT_rel : ∀ {x : Value} {t : T}, constT x = some t → RelT w W t x ∧ x.oneCell' = true ∧ leafT t = true := by
  intro x d h
  unfold constT at h
  split at h <;> simp only [Option.some.injEq, reduceCtorEq] at h <;> subst h <;> simp [RelT, Value.oneCell', leafT]
theorem mapM_constD_rel : ∀ {xs : List Value} {ds : List DV}, xs.mapM constD = some ds → RelDs w W objs L ds xs
  | [], ds, h => by simp at h; subst h; simp [RelDs]
  | x :: xs, ds, h => by
    simp only [List.mapM_cons, Option.pure_def, Option.bind_eq_bind, Option.bind_eq_some_iff, Option.some.injEq] at h
    obtain ⟨d, hd, ds', hds, rfl⟩ := h
    simp only [RelDs]
    have := constD_rel (w := w) (W := W) (objs := objs) (L := L) hd
    exact ⟨x, xs, rfl, this.2, this.1, mapM_constD_rel hds⟩
theorem mapM_constT_rel : ∀ {xs : List Value} {ds : List T}, xs.mapM constT = some ds → RelL w W ds xs
  | [], ds, h => by simp at h; subst h; simp [RelL]
  | x :: xs, ds, h => by
    simp only [List.mapM_cons, Option.pure_def, Option.bind_eq_bind, Option.bind_eq_some_iff, Option.some.injEq] at h
    obtain ⟨d, hd, ds', hds, rfl⟩ := h
    simp only [RelL]
    have := constT_rel (w := w) (W := W) hd
    exact ⟨x, xs, rfl, this.2.1, this.1, mapM_constT_rel hds⟩
theorem Opd.of_rel {a : Act} {ρ : Nat → DV} (hg : GOk w (WW W objs L)) (hρ : ∀ t, RelD w W objs L (ρ t) (a.tmps.getD t Go.undef)) {x : Operand} {y : Opd} (h : Opd.of x = some y) : RelD w W objs L (y.ev ρ) (a.eval x) := by
  cases x with
  | tmp t => simp only [Opd.of, Option.some.injEq] at h; subst h; simpa [Opd.ev, Act.eval] using hρ t
  | const v =>
    simp only [Opd.of, Option.map_eq_some_iff] at h
    obtain ⟨d, hd, rfl⟩ := h
    exact (constD_rel hd).1
  | func f => simp only [Opd.of, Option.some.injEq] at h; subst h; simp [Opd.ev, Act.eval, RelD, RelT, RelL]
  | global g =>
    simp only [Opd.of, Option.map_eq_some_iff] at h
    obtain ⟨p, hp, rfl⟩ := h
    have h1 := List.find?_some hp
    obtain rfl : p.1 = g := by simpa using h1
    obtain ⟨h2, h3, h4⟩ := hg p (List.mem_of_find?_eq_some hp)
    simp only [Opd.ev, Act.eval, RelD]
    exact ⟨p.1, 0, rfl, h2, h3, h4⟩

theorem add_off (b o n : Nat) : (⟨b, o, none⟩ : Addr).add n = ⟨b, o + n, none⟩ := by unfold Addr.add; split <;> simp_all

/-- Cells that are read one after another. -/
theorem run_loadRow {P : Program} {w : World} {b o : Nat} {vs : List Value} (h : ∀ j v, vs[j]? = some v → w.cell? ⟨b, o + j, none⟩ = some v) :
    (loadCells ⟨b, o, none⟩ vs.length).run P w = .ok vs.toArray w :=
  run_loadCells_list w _ vs fun j v hv => by rw [add_off]; exact h j v hv

theorem run_isAgg {P : Program} {w : World} {t : TypeId} {d : TypeDesc} (h : P.underlying t = some d) : (isAgg t).run P w = .ok (match d with | .struct _ | .array _ _ => true | _ => false) w := by
  simp only [isAgg, Sem.run_bind, run_underlying h, Result.andThen_ok]
  cases d <;> rfl
theorem run_sizeOf {P : Program} {w : World} {t : TypeId} {i : TypeInfo} (h : P.info? t = some i) : (sizeOf t).run P w = .ok i.size w := by
  simp [sizeOf, typeInfo, h]

def aggDesc : TypeDesc → Bool
  | .struct _ | .array _ _ => true
  | _ => false

/-- A variable that is read: its cells lie in a row. -/
theorem run_loadVar_row' {P : Program} {w : World} {t : TypeId} {d : TypeDesc} {i : TypeInfo} (hd : P.underlying t = some d) (hi : P.info? t = some i) {b o : Nat} {vs : List Value}
    (hl : vs.length = i.size) (h : ∀ j v, vs[j]? = some v → w.cell? ⟨b, o + j, none⟩ = some v) (hs : aggDesc d = true ∨ i.size = 1) :
    (Instr.loadAt t (.pointer (some ⟨b, o, none⟩))).run P w = .ok (if aggDesc d then .agg vs.toArray else vs.getD 0 Go.undef) w := by
  have h1 : (isAgg t).run P w = .ok (aggDesc d) w := by rw [run_isAgg hd]; cases d <;> rfl
  simp only [Instr.loadAt, Instr.sureAddr, loadVar, Sem.run_bind, Sem.run_pure, Result.andThen_ok, h1]
  by_cases ha : aggDesc d = true
  · simp only [ha, if_true, Sem.run_bind, run_sizeOf hi, Result.andThen_ok]
    rw [← hl, run_loadRow h]
    rfl
  · have h1 : vs.length = 1 := by rw [hl]; exact hs.resolve_left ha
    match vs, h1 with
    | [v], _ =>
      have := h 0 v rfl
      simp only [Nat.add_zero] at this
      simp [ha, this]

theorem RelAt.vals {b : Nat} : ∀ {ts : List T} {o : Nat}, RelAt w W b o ts → ∃ vs, RelL w W ts vs ∧ ∀ j v, vs[j]? = some v → w.cell? ⟨b, o + j, none⟩ = some v
  | [], o, _ => ⟨[], by simp [RelL], by simp⟩
  | t :: ts, o, h => by
    simp only [RelAt] at h
    obtain ⟨⟨v, hc, h1, hr⟩, hrs⟩ := h
    obtain ⟨vs, hv, hcs⟩ := RelAt.vals hrs
    refine ⟨v :: vs, by simp only [RelL]; exact ⟨v, vs, rfl, h1, hr, hv⟩, fun j u hu => ?_⟩
    cases j with
    | zero => simp only [List.getElem?_cons_zero, Option.some.injEq] at hu; subst hu; simpa using hc
    | succ j =>
      have := hcs j u (by simpa using hu)
      rwa [show o + (j + 1) = o + 1 + j by omega]
theorem RelL.split {ts ts' : List T} : ∀ {vs : List Value}, RelL w W (ts ++ ts') vs → ∃ v1 v2, vs = v1 ++ v2 ∧ RelL w W ts v1 ∧ RelL w W ts' v2 := by
  induction ts with
  | nil => intro vs h; exact ⟨[], vs, rfl, by simp [RelL], h⟩
  | cons t ts ih =>
    intro vs h
    simp only [List.cons_append, RelL] at h
    obtain ⟨v, vs', rfl, h1, h2, hr⟩ := h
    obtain ⟨v1, v2, rfl, ha, hb⟩ := ih hr
    exact ⟨v :: v1, v2, rfl, by simp only [RelL]; exact ⟨v, v1, rfl, h1, h2, ha⟩, hb⟩
theorem RelAt.of_relL {b o : Nat} {ts : List T} {vs : List Value} (h : RelL w W ts vs) (hc : ∀ j v, vs[j]? = some v → w.cell? ⟨b, o + j, none⟩ = some v) : RelAt w W b o ts :=
  RelAt.of_cells ts o fun j t ht => by
    obtain ⟨v, hv, h1, hr⟩ := RelL.get h ht
    exact ⟨v, hc j v hv, h1, hr⟩
theorem RelRows.of_flatten {sz b : Nat} : ∀ {rows : List (List T)} {o : Nat} {vs : List Value}, RelL w W rows.flatten vs → (∀ r ∈ rows, r.length = sz) → (∀ j v, vs[j]? = some v → w.cell? ⟨b, o + j, none⟩ = some v) → RelRows w W sz b o rows
  | [], _, _, _, _, _ => by simp [RelRows]
  | r :: rs, o, vs, h, hl, hc => by
    simp only [List.flatten_cons] at h
    obtain ⟨v1, v2, rfl, ha, hb⟩ := RelL.split h
    have hr : r.length = sz := hl r (by simp)
    have hv1 : v1.length = sz := by rw [RelL.length ha, hr]
    simp only [RelRows]
    refine ⟨hr, RelAt.of_relL ha fun j v hv => hc j v ?_, RelRows.of_flatten hb (fun x hx => hl x (by simp [hx])) fun j v hv => ?_⟩
    · rw [List.getElem?_append_left (List.getElem?_eq_some_iff.1 hv).1]; exact hv
    · have := hc (sz + j) v (by rw [List.getElem?_append_right (by omega), hv1]; simpa using hv)
      rwa [show o + sz + j = o + (sz + j) by omega]
theorem RelRows.flatten {sz b : Nat} : ∀ {rows : List (List T)} {o : Nat}, RelRows w W sz b o rows → ∃ vs, vs.length = rows.length * sz ∧ RelL w W rows.flatten vs ∧ ∀ j v, vs[j]? = some v → w.cell? ⟨b, o + j, none⟩ = some v
  | [], o, _ => ⟨[], by simp, by simp [RelL], by simp⟩
  | r :: rs, o, h => by
    simp only [RelRows] at h
    obtain ⟨v1, h1, hc1⟩ := RelAt.vals h.2.1
    obtain ⟨v2, hl2, h2, hc2⟩ := RelRows.flatten h.2.2
    have hv1 : v1.length = sz := by rw [RelL.length h1, h.1]
    refine ⟨v1 ++ v2, by simp [hv1, hl2, Nat.add_mul]; omega, by simpa using RelL.append h1 h2, fun j v hv => ?_⟩
    by_cases hj : j < v1.length
    · rw [List.getElem?_append_left hj] at hv; exact hc1 j v hv
    · rw [List.getElem?_append_right (by omega)] at hv
      have := hc2 (j - v1.length) v hv
      rwa [show o + sz + (j - v1.length) = o + j by omega] at this

theorem ObOk.rows {base : Nat} {M : Nat → Prop} {r ver e sz : Nat} {rows : List (List T)} (h : ObOk w W objs L base M r (.arr ver e sz rows)) {g : Nat} (hg : capBlock (L.sl r) = some g) :
    RelRows w (WW W objs L) sz g 0 rows := by
  obtain ⟨_, hl, _, h⟩ := h
  rcases h with ⟨rfl, _⟩ | ⟨g', cap, cur, hv, hp, hh, h1, h2, h3, h4⟩
  · simp [RelRows]
  · rw [hv] at hg
    simp only [capBlock, if_neg (Nat.pos_iff_ne_zero.1 hp), Option.some.injEq] at hg
    subst hg
    refine RelRows.of_flatten h4 hl fun j v hv => ?_
    rw [Nat.zero_add, cell_of_row w g' j cur e (0, 0) hh]
    rw [List.getElem?_take] at hv
    split at hv
    · simpa using hv
    · cases hv

theorem rowAt_get {rows : List (List T)} {i : Int} (h0 : 0 ≤ i) (h1 : i < rows.length) : rows[i.toNat]? = some (rowAt rows i) := by
  have : i.toNat < rows.length := by omega
  simp [rowAt, List.getD, this]

theorem RelL.take (n : Nat) {ds : List T} : ∀ {vs : List Value}, RelL w W ds vs → RelL w W (ds.take n) (vs.take n) := by
  induction n generalizing ds with
  | zero => intro vs h; simp [RelL]
  | succ n ih =>
    intro vs h
    cases ds with
    | nil => simp only [RelL] at h; subst h; simp [RelL]
    | cons d ds =>
      simp only [RelL] at h
      obtain ⟨v, vs', rfl, h1, h2, hr⟩ := h
      simp only [List.take_succ_cons, RelL]
      exact ⟨v, _, rfl, h1, h2, ih hr⟩
theorem RelL.drop (n : Nat) {ds : List T} : ∀ {vs : List Value}, RelL w W ds vs → RelL w W (ds.drop n) (vs.drop n) := by
  induction n generalizing ds with
  | zero => intro vs h; simpa using h
  | succ n ih =>
    intro vs h
    cases ds with
    | nil => simp only [RelL] at h; subst h; simp [RelL]
    | cons d ds =>
      simp only [RelL] at h
      obtain ⟨v, vs', rfl, h1, h2, hr⟩ := h
      simpa using ih hr

theorem load_tree {P : Program} {t : TypeId} {d : TypeDesc} {i : TypeInfo} (hd : P.underlying t = some d) (hi : P.info? t = some i) {b o off : Nat} {cs : List T}
    (hr : RelAt w (WW W objs L) b o cs) (hok : off + i.size ≤ cs.length ∧ (aggDesc d = true ∨ i.size = 1)) :
    ∃ v, (Instr.loadAt t (.pointer (some ⟨b, o + off, none⟩))).run P w = .ok v w ∧
      RelD w W objs L (if aggDesc d then .v (.agg ((cs.drop off).take i.size)) else .v (cs.getD off default)) v := by
  obtain ⟨vs, hv, hc⟩ := RelAt.vals hr
  have hl := RelL.length hv
  have hv2 := RelL.take i.size (RelL.drop off hv)
  refine ⟨_, run_loadVar_row' hd hi (vs := (vs.drop off).take i.size) (by simp; omega) (fun j v hj => ?_) hok.2, ?_⟩
  · rw [List.getElem?_take] at hj
    split at hj
    · rw [List.getElem?_drop] at hj
      have := hc _ _ hj
      rwa [show o + off + j = o + (off + j) by omega]
    · cases hj
  · by_cases ha : aggDesc d = true
    · simp only [ha, if_true, RelD, RelT]
      exact ⟨_, rfl, by simpa using hv2⟩
    · have h1 : i.size = 1 := hok.2.resolve_left ha
      have hlt : off < cs.length := by omega
      obtain ⟨v, hv', _, hr'⟩ := RelL.get hv (i := off) (t := cs[off]) (by simp [hlt])
      have e1 : (List.take i.size (List.drop off vs)).getD 0 Go.undef = v := by
        rw [h1]
        simp only [List.getD, List.getElem?_take, List.getElem?_drop, Nat.add_zero, hv']
        simp
      have e2 : cs.getD off default = cs[off] := by simp [List.getD, hlt]
      simp only [ha, if_false, e1, e2, RelD]
      exact hr'

theorem load_sound {P : Program} {base : Nat} {M : Nat → Prop} {w0 : World} (hO : RelO base W M w0 objs w L) {t : TypeId} {d : TypeDesc} {i : TypeInfo} (hd : P.underlying t = some d) (hi : P.info? t = some i)
    {x : DV} {xv : Value} (hx : RelD w W objs L x xv) (hok : (loadSem i.size (aggDesc d) objs x).ok) :
    (loadSem i.size (aggDesc d) objs x).put = none ∧ ∃ v, (Instr.loadAt t xv).run P w = .ok v w ∧ RelD w W objs L (loadSem i.size (aggDesc d) objs x).val v := by
  cases x with
  | ptr r off =>
    simp only [RelD] at hx
    obtain ⟨⟨cs, hc⟩, rfl⟩ := hx
    simp only [loadSem, hc] at hok ⊢
    refine ⟨trivial, ?_⟩
    obtain ⟨c, e, hh, hr, _⟩ := hO.ob r _ hc
    have hl := RelDs.length hr
    have hr2 := RelDs.take i.size (RelDs.drop off hr)
    refine ⟨_, run_loadVar_row' hd hi (vs := (c.toList.drop off).take i.size) (by simp at hl ⊢; omega) (fun j v hj => ?_) hok.2, ?_⟩
    · rw [List.getElem?_take] at hj
      split at hj
      · rw [List.getElem?_drop] at hj
        rw [cell_of_row w _ _ c e (0, 0) hh]
        simpa using hj
      · cases hj
    · by_cases ha : aggDesc d = true
      · simp only [ha, if_true, RelD]
        exact ⟨_, rfl, by simpa using hr2⟩
      · have h1 : i.size = 1 := hok.2.resolve_left ha
        have hlt : off < cs.length := by omega
        obtain ⟨v, hv', _, hr'⟩ := RelDs.get hr (i := off) (d := cs[off]) (by simp [hlt])
        have e1 : (List.take i.size (List.drop off c.toList)).getD 0 Go.undef = v := by
          rw [h1]
          simp only [List.getD, List.getElem?_take, List.getElem?_drop, Nat.add_zero, hv']
          simp
        have e2 : cs.getD off .undef = cs[off] := by simp [List.getD, hlt]
        simp only [ha, if_false, e1, e2]
        exact hr'
  | tptr rows j off =>
    simp only [RelD] at hx
    obtain ⟨b, o, sz, rfl, hb, hn, hr, h0, h1⟩ := hx
    simp only [loadSem] at hok ⊢
    exact ⟨trivial, load_tree hd hi (RelRows.row hr (rowAt_get h0 h1)).2 hok⟩
  | bptr cs off =>
    simp only [RelD] at hx
    obtain ⟨b, o, rfl, hb, hn, hr⟩ := hx
    simp only [loadSem] at hok ⊢
    exact ⟨trivial, load_tree hd hi hr hok⟩
  | v t' =>
    cases t' with
    | box cs =>
      simp only [RelD, RelT] at hx
      obtain ⟨b, o, rfl, hb, hn, hr⟩ := hx
      simp only [loadSem] at hok ⊢
      have := load_tree (objs := objs) (L := L) (W := W) hd hi (off := 0) hr (by simpa using hok)
      refine ⟨trivial, ?_⟩
      simpa using this
    | _ => simp [loadSem, bad] at hok
  | aptr r ver j off =>
    simp only [RelD] at hx
    obtain ⟨_, ver', e, sz, rows, ho, hle, hx⟩ := hx
    simp only [loadSem, ho] at hok ⊢
    obtain ⟨g, hg, rfl, h0, h1⟩ := hx hok.1
    have hrr := ObOk.rows (hO.ob r _ ho) hg
    have := (RelRows.row hrr (rowAt_get h0 h1)).2
    rw [Nat.zero_add] at this
    exact ⟨trivial, load_tree hd hi this hok.2⟩
  | _ => simp [loadSem, bad] at hok
end
end Go.DM
