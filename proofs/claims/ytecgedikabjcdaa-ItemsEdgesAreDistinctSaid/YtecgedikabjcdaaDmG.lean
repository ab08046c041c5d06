/- The D-machine, part G: the model's operations read as the machine's, one by one. Conditions: none. -/
import Derived.Test.YtecgedikabjcdaaDmF
namespace Go.DM
open Go.RowKit
set_option linter.unusedSimpArgs false
set_option linter.unusedVariables false

def ofParts (l : List (Nat × Operand)) (place : Nat → Option (Nat × Nat)) : Option (List (Nat × Nat × Opd)) :=
  l.mapM fun p => do
    let q ← place p.1
    let x ← Opd.of p.2
    pure (q.1, q.2, x)

/-- Where the parts of a literal of a struct or array type lie. -/
def places (P : Program) (t : TypeId) : Option (Nat → Option (Nat × Nat)) :=
  match P.underlying t with
  | some (.struct fields) => (fields.toList.mapM fun f => (P.info? f.type).map fun i => (f.offset, i.size)).map fun pl k => pl[k]?
  | some (.array _ e) => (P.info? e).map fun ie k => some (k * ie.size, ie.size)
  | _ => none

def optOpd : Option Operand → Option (Option Opd)
  | none => some none
  | some x => (Opd.of x).map some

def compileBin (P : Program) (op : BinOp) (t : TypeId) (x y : Opd) : Option DOp :=
  match P.underlying t with
  | some (.int _) => match op with
    | .add | .sub | .mul | .quo | .rem | .eql | .neq | .lss | .leq | .gtr | .geq | .shl | .shr | .and | .or | .xor => some (.bin op x y)
    | _ => none
  | some d => match op, shOf P 10000 t with
    | .eql, some shs => if P.eqGuardType P.depth t then none else some (.eqT false (aggDesc d) shs x y)
    | .neq, some shs => if P.eqGuardType P.depth t then none else some (.eqT true (aggDesc d) shs x y)
    | _, _ => none
  | none => none

def compileCall (P : Program) (c : Call) : Option DOp :=
  match c.callee with
  | .value (.func f) => match P.funcs[f]? with
    | some fn => if fn.name = "runtime.NumGoroutine" ∨ fn.body.isNone then none else (c.args.toList.mapM Opd.of).map (.call f)
    | none => none
  | .value (.tmp t) => (c.args.toList.mapM Opd.of).map (.callv (.tmp t))
  | .builtin .len => match c.args.toList, c.argTypes.toList with
    | [x], [t] => match P.underlying t with
      | some (.slice _) => (Opd.of x).map .len
      | some .string => (Opd.of x).map .lenS
      | _ => none
    | _, _ => none
  | .builtin .min => match c.args.toList with
    | [x, y] => do return .minmax false (← Opd.of x) (← Opd.of y)
    | _ => none
  | .builtin .max => match c.args.toList with
    | [x, y] => do return .minmax true (← Opd.of x) (← Opd.of y)
    | _ => none
  | .builtin .append => match c.args.toList, c.argTypes.toList with
    | [x, y], [t, t'] => if t ≠ t' then none else match P.underlying t with
      | some (.slice e) => match P.info? e with
        | some i => match i.zero with
          | some z => if z.cells.size = i.size ∧ 0 < i.size then do return .append e i.size i.bytes (← Opd.of x) (← Opd.of y) else none
          | none => none
        | none => none
      | _ => none
    | _, _ => none
  | _ => none

/-- One operation of the model, read. -/
def compileOp (P : Program) (o : Oper) : Option DOp :=
  match o.op with
  | .move x | .assign x => (Opd.of x).map .mov
  | .pick c a b => do return .pick (← Opd.of c) (← Opd.of a) (← Opd.of b)
  | .alloc e => do
    let i ← P.info? e
    let z ← i.zero
    return .alloc (← z.cells.toList.mapM constD)
  | .box _ x => (Opd.of x).map .box
  | .build t parts => do
    let i ← P.info? t
    let z ← i.zero
    let zs ← z.cells.toList.mapM constD
    let pl ← places P t
    return .build zs (← ofParts parts.toList pl)
  | .buildSlice t len parts =>
    match P.underlying t with
    | some (.slice e) => do
      let ei ← P.info? e
      if len * ei.size > 2 ^ 24 ∨ ei.size = 0 then none else
      let z ← ei.zero
      let zs ← (((Array.range (len * ei.size)).map (z.cells[· % z.cells.size]!)).toList).mapM constD
      return .bslice len ei.size zs (← ofParts parts.toList fun k => some (k * ei.size, ei.size))
    | _ => none
  | .load t a => match P.underlying t, P.info? t with
    | some d, some i => (Opd.of a).map (.load i.size (aggDesc d))
    | _, _ => none
  | .store t a x => do
    let i ← P.info? t
    return .store i.size (← Opd.of a) (← Opd.of x)
  | .nilCheck x => (Opd.of x).map .nilCheck
  | .binOp op t x y _ => do compileBin P op t (← Opd.of x) (← Opd.of y)
  | .unOp op _ x => (Opd.of x).map (.un op)
  | .convert src dst x => match P.underlying src, P.underlying dst with
    | some (.int _), some (.int k) => (Opd.of x).map (.conv k)
    | _, _ => none
  | .fieldAddr s x f => match P.underlying s with
    | some (.struct fs) => match fs[f]? with
      | some fd => match P.info? fd.type with
        | some fi => if fi.size = 0 then none else (Opd.of x).map (.addOff fd.offset)
        | none => none
      | none => none
    | _ => none
  | .field s x f => match P.underlying s with
    | some (.struct fs) => match fs[f]? with
      | some fd => match P.info? fd.type, P.underlying fd.type with
        | some fi, some d => (Opd.of x).map (.field fd.offset fi.size (aggDesc d))
        | _, _ => none
      | none => none
    | _ => none
  | .indexAddr t x ix => match P.underlying t with
    | some (.slice e) => match P.info? e with
      | some i => do return .idxAddr i.size (← Opd.of x) (← Opd.of ix)
      | none => none
    | some (.array n e) => match P.info? e with
      | some i => do return .arrAddr n i.size (← Opd.of x) (← Opd.of ix)
      | none => none
    | _ => none
  | .slice t x lo hi none => match P.underlying t with
    | some (.slice e) => match P.info? e with
      | some i => do return .slice i.size (← Opd.of x) (← optOpd lo) (← optOpd hi)
      | none => none
    | _ => none
  | .extract t i => (Opd.of t).map (.extract i)
  | .makeSlice t l c => match P.underlying t with
    | some (.slice e) => match P.info? e with
      | some i => match i.zero with
        | some z => match l, c with
          | .tmp a, .tmp b => if a = b ∧ 0 < i.size then do return .mkSlice e i.size i.bytes (← z.cells.toList.mapM constT) (.tmp a) else none
          | .const (.int k a), .const (.int k' b) => if a = b ∧ k = k' ∧ 0 < i.size then do return .mkSlice e i.size i.bytes (← z.cells.toList.mapM constT) (.con (.v (.int k a))) else none
          | _, _ => none
        | none => none
      | none => none
    | _ => none
  | .makeFunc f first caps => if first.isEmpty then do return .mkFn f (← caps.toList.mapM Opd.of) else none
  | .call c => compileCall P c
  | _ => none

section
variable {w : World} {W : Nat → Prop} {objs : Obs} {L : Loc}
theorem foldl_set (off : Nat) : ∀ (vs : List Value) (j0 : Nat) (cs : Array Value), off + j0 + vs.length ≤ cs.size →
    (vs.zipIdx j0).foldl (fun cs (x : Value × Nat) => cs.setIfInBounds (off + x.2) x.1) cs = (splice cs.toList (off + j0) vs).toArray
  | [], j0, cs, _ => by simp [splice]
  | v :: vs, j0, cs, h => by
    simp only [List.length_cons] at h
    simp only [List.zipIdx_cons, List.foldl_cons]
    rw [foldl_set off vs (j0 + 1) _ (by simp; omega)]
    congr 1
    simp only [splice, Array.toList_setIfInBounds, List.length_cons]
    have e := list_seg_step cs.toList (off + j0) v vs (by simp; omega)
    simpa [Nat.add_assoc] using e

theorem fill_rel {a : Act} {ρ : Nat → DV} (hρ : ∀ t, RelD w W objs L (ρ t) (a.tmps.getD t Go.undef)) {place : Nat → Option (Nat × Nat)} : ∀ (ps : List (Nat × Operand)) (qs : List (Nat × Nat × Opd)), ofParts ps place = some qs →
    ∀ (cells : Array Value) (ds : List DV), RelDs w W objs L ds cells.toList → fillOk cells.size (qs.map fun p => (p.1, p.2.1, p.2.2.ev ρ)) →
      ∃ cells', Instr.fill place cells (ps.map fun p => (p.1, a.eval p.2)) = some cells' ∧ RelDs w W objs L (fillD ds (qs.map fun p => (p.1, p.2.1, p.2.2.ev ρ))) cells'.toList ∧ cells'.size = cells.size
  | [], qs, h, cells, ds, hd, _ => by
    simp [ofParts] at h
    subst h
    exact ⟨cells, rfl, by simpa [fillD] using hd, rfl⟩
  | p :: ps, qs, h, cells, ds, hd, hok => by
    simp only [ofParts, List.mapM_cons, Option.pure_def, Option.bind_eq_bind, Option.bind_eq_some_iff, Option.some.injEq] at h
    obtain ⟨q, ⟨pl, hpl, x, hx, rfl⟩, qs', hqs, rfl⟩ := h
    simp only [List.map_cons, fillOk] at hok
    obtain ⟨hl, hfit, hce, hrest⟩ := hok
    have hv := Opd.of_rel hρ hx
    have hcs := cellables_one hv hce
    have hcl : (a.eval p.2).cells.size = pl.2 := by have := RelDs.length hcs; simpa [hl] using this
    have hset : ((a.eval p.2).cells.zipIdx.foldl (fun cs (x : Value × Nat) => cs.setIfInBounds (pl.1 + x.2) x.1) cells) = (splice cells.toList pl.1 (a.eval p.2).cells.toList).toArray := by
      rw [← Array.foldl_toList, Array.toList_zipIdx]
      have := foldl_set pl.1 (a.eval p.2).cells.toList 0 cells (by simp [hcl]; omega)
      simpa using this
    have hd' : RelDs w W objs L (splice ds pl.1 (cellsOf (x.ev ρ))) (splice cells.toList pl.1 (a.eval p.2).cells.toList).toArray.toList := by
      simpa using RelDs.splice pl.1 hd hcs
    have hsz : (splice cells.toList pl.1 (a.eval p.2).cells.toList).toArray.size = cells.size := by
      have := length_splice (l := cells.toList) (new := (a.eval p.2).cells.toList) (off := pl.1) (by simp [hcl]; omega)
      simpa using this
    obtain ⟨cells', h1, h2, h3⟩ := fill_rel hρ ps qs' (by simpa [ofParts] using hqs) _ _ hd' (by rw [hsz]; exact hrest)
    refine ⟨cells', ?_, by simpa only [List.map_cons, fillD] using h2, h3.trans hsz⟩
    simp only [List.map_cons, Instr.fill, hpl, hcl]
    rw [if_neg (by simp; omega), hset]
    exact h1

theorem run_buildSlice {P : Program} (w : World) {t e : TypeId} {i : TypeInfo} {z : Value} (ht : P.underlying t = some (.slice e)) (hi : P.info? e = some i) (hz : i.zero = some z) (len : Nat) (hlen : ¬ len * i.size > 2 ^ 24) {parts : Array (Nat × Value)} {cells : Array Value}
    (h : Instr.fill (fun k => some (k * i.size, i.size)) ((Array.range (len * i.size)).map (z.cells[· % z.cells.size]!)) parts.toList = some cells) :
    (Instr.buildSlice t len parts).run P w = .ok (.slice (some ⟨w.heap.size, 0, none⟩) len len) (w.alloc (.cells cells e)) := by
  by_cases h0 : len * i.size = 0
  · have h' : Instr.fill (fun k => some (k * i.size, i.size)) #[] parts.toList = some cells := by
      rw [h0] at h
      simpa [Array.range_zero'] using h
    simp [Instr.buildSlice, run_underlying ht, run_sizeOf hi, h0, h', newRow, Array.range_zero']
  · simp [Instr.buildSlice, run_underlying ht, run_sizeOf hi, zeroValue, typeInfo, hi, hz, h0, hlen, h, newRow]
end
end Go.DM
