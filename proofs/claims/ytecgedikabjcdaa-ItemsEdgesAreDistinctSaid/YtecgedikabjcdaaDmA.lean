/- The D-machine, part A: pure tree values, slot values, named objects, and how they are related to the model's values in a world. Conditions: none. -/
import Derived.CallsIn
import Derived.Below
import Derived.Laws.AppendOwn
import Derived.Laws.AppendOwnNone
import Derived.Laws.MakeOwn
set_option linter.unusedVariables false
namespace Go.DM

/-- A pure tree value: what a Go value reads as when it is never written again. A struct is the flat list of its cells; a slice the list of its rows (one row of cells an element). -/
inductive T where
  | bool (b : Bool)
  | int (k : IntKind) (n : Int)
  | str (s : ByteArray)
  | sl (rows : List (List T))
  | agg (cs : List T)
  | tup (vs : List T)
  | fn (f : Fn) (caps : List T)
  | box (cs : List T)
  | raw (v : Value)

instance : Inhabited T := ⟨.bool false⟩

section
variable (w : World) (W : Nat → Prop)
mutual
/-- The value v reads as the tree t in world w, and all the memory of it lies outside W (what may still be written). -/
def RelT : T → Value → Prop
  | .bool b, v => v = .bool b
  | .int k n, v => v = .int k n
  | .str s, v => v = .string s
  | .sl rows, v => (rows = [] ∧ ∃ (a : Option Addr) (cap : Nat), v = .slice a 0 cap) ∨
      ∃ b o cap sz, v = .slice (some ⟨b, o, none⟩) rows.length cap ∧ b < w.heap.size ∧ ¬ W b ∧ rows.length ≤ cap ∧ RelRows sz b o rows
  | .agg cs, v => ∃ vs, v = .agg vs ∧ RelL cs vs.toList
  | .tup ts, v => ∃ vs, v = .tuple vs ∧ RelA ts vs.toList
  | .fn f caps, v => ∃ vs, v = .func f #[] vs ∧ RelL caps vs.toList
  | .box cs, v => ∃ b o, v = .pointer (some ⟨b, o, none⟩) ∧ b < w.heap.size ∧ ¬ W b ∧ RelAt b o cs
  | .raw x, v => v = x
def RelL : List T → List Value → Prop
  | [], vs => vs = []
  | t :: ts, vs => ∃ v vs', vs = v :: vs' ∧ v.oneCell' = true ∧ RelT t v ∧ RelL ts vs'
def RelA : List T → List Value → Prop
  | [], vs => vs = []
  | t :: ts, vs => ∃ v vs', vs = v :: vs' ∧ RelT t v ∧ RelA ts vs'
def RelAt : Nat → Nat → List T → Prop
  | _, _, [] => True
  | b, o, t :: ts => (∃ v, w.cell? ⟨b, o, none⟩ = some v ∧ v.oneCell' = true ∧ RelT t v) ∧ RelAt b (o + 1) ts
def RelRows : Nat → Nat → Nat → List (List T) → Prop
  | _, _, _, [] => True
  | sz, b, o, r :: rs => r.length = sz ∧ RelAt b o r ∧ RelRows sz b (o + sz) rs
end
end

/-- What must hold for a reading to stay: the old cells outside W stay. -/
structure KeepsC (W : Nat → Prop) (w w' : World) : Prop where
  size : w.heap.size ≤ w'.heap.size
  blk : ∀ (b : Nat) c e fr, w.heap[b]? = some (.cells c e fr) → ¬ W b → w'.heap[b]? = some (.cells c e fr)
/-- The marks of loops stay, too. -/
structure Keeps (W : Nat → Prop) (w w' : World) : Prop extends KeepsC W w w' where
  dfr : ∀ b : Nat, w.heap[b]? = some (Obj.deferred (some [])) → w'.heap[b]? = some (Obj.deferred (some []))
  lps : ∀ (b : Nat) r, w.heap[b]? = some (Obj.loop r) → w'.heap[b]? = some (Obj.loop r)

theorem KeepsC.cell {W : Nat → Prop} {w w' : World} (h : KeepsC W w w') {b o : Nat} {v : Value} (hn : ¬ W b) (hc : w.cell? ⟨b, o, none⟩ = some v) : w'.cell? ⟨b, o, none⟩ = some v := by
  unfold World.cell? at hc ⊢
  simp only at hc ⊢
  split at hc
  · rename_i c e fr hb
    rw [h.blk b c e fr hb hn]
    exact hc
  · cases hc
theorem Keeps.refl (W : Nat → Prop) (w : World) : Keeps W w w := ⟨⟨Nat.le_refl _, fun _ _ _ _ h _ => h⟩, fun _ h => h, fun _ _ h => h⟩
theorem Keeps.trans {W : Nat → Prop} {a b c : World} (h : Keeps W a b) (k : Keeps W b c) : Keeps W a c :=
  ⟨⟨Nat.le_trans h.size k.size, fun i c e fr hi hw => k.blk i c e fr (h.blk i c e fr hi hw) hw⟩, fun i hi => k.dfr i (h.dfr i hi), fun i r hi => k.lps i r (h.lps i r hi)⟩
theorem Keeps.mono {W W' : Nat → Prop} {a b : World} (h : Keeps W a b) (hw : ∀ i, W i → W' i) : Keeps W' a b :=
  ⟨⟨h.size, fun i c e fr hi hn => h.blk i c e fr hi fun x => hn (hw i x)⟩, h.dfr, h.lps⟩
theorem Keeps.of_below {W : Nat → Prop} {w w' : World} (h : RowKit.Below w.heap.size w w') : Keeps W w w' :=
  ⟨⟨h.size, fun b c e fr hb _ => (h.block b (Array.getElem?_eq_some_iff.1 hb).1).trans hb⟩, fun b hb => (h.block b (Array.getElem?_eq_some_iff.1 hb).1).trans hb, fun b r hb => (h.block b (Array.getElem?_eq_some_iff.1 hb).1).trans hb⟩

mutual
theorem RelT.keep {w w' : World} {W W' : Nat → Prop} (h : KeepsC W w w') (hW : ∀ b, b < w.heap.size → W' b → W b) : ∀ (t : T) (v : Value), RelT w W t v → RelT w' W' t v
  | .bool b, v, r => by simpa [RelT] using r
  | .int k n, v, r => by simpa [RelT] using r
  | .raw x, v, r => by simpa [RelT] using r
  | .str s, v, r => by simpa [RelT] using r
  | .sl rows, v, r => by
    simp only [RelT] at r ⊢
    rcases r with r | ⟨b, o, cap, sz, hv, hb, hn, hc, hr⟩
    · exact .inl r
    · exact .inr ⟨b, o, cap, sz, hv, Nat.lt_of_lt_of_le hb h.size, fun x => hn (hW b hb x), hc, RelRows.keep h hW hb hn sz o rows hr⟩
  | .agg cs, v, r => by
    simp only [RelT] at r ⊢
    obtain ⟨vs, hv, hr⟩ := r
    exact ⟨vs, hv, RelL.keep h hW cs _ hr⟩
  | .tup ts, v, r => by
    simp only [RelT] at r ⊢
    obtain ⟨vs, hv, hr⟩ := r
    exact ⟨vs, hv, RelA.keep h hW ts _ hr⟩
  | .fn f caps, v, r => by
    simp only [RelT] at r ⊢
    obtain ⟨vs, hv, hr⟩ := r
    exact ⟨vs, hv, RelL.keep h hW caps _ hr⟩
  | .box cs, v, r => by
    simp only [RelT] at r ⊢
    obtain ⟨b, o, hv, hb, hn, hr⟩ := r
    exact ⟨b, o, hv, Nat.lt_of_lt_of_le hb h.size, fun x => hn (hW b hb x), RelAt.keep h hW hb hn o cs hr⟩
theorem RelL.keep {w w' : World} {W W' : Nat → Prop} (h : KeepsC W w w') (hW : ∀ b, b < w.heap.size → W' b → W b) : ∀ (ts : List T) (vs : List Value), RelL w W ts vs → RelL w' W' ts vs
  | [], vs, r => by simpa [RelL] using r
  | t :: ts, vs, r => by
    simp only [RelL] at r ⊢
    obtain ⟨v, vs', hv, h1, hr, hrs⟩ := r
    exact ⟨v, vs', hv, h1, RelT.keep h hW t v hr, RelL.keep h hW ts vs' hrs⟩
theorem RelA.keep {w w' : World} {W W' : Nat → Prop} (h : KeepsC W w w') (hW : ∀ b, b < w.heap.size → W' b → W b) : ∀ (ts : List T) (vs : List Value), RelA w W ts vs → RelA w' W' ts vs
  | [], vs, r => by simpa [RelA] using r
  | t :: ts, vs, r => by
    simp only [RelA] at r ⊢
    obtain ⟨v, vs', hv, hr, hrs⟩ := r
    exact ⟨v, vs', hv, RelT.keep h hW t v hr, RelA.keep h hW ts vs' hrs⟩
theorem RelAt.keep {w w' : World} {W W' : Nat → Prop} (h : KeepsC W w w') (hW : ∀ b, b < w.heap.size → W' b → W b) {b : Nat} (hb : b < w.heap.size) (hn : ¬ W b) : ∀ (o : Nat) (ts : List T), RelAt w W b o ts → RelAt w' W' b o ts
  | _, [], _ => by simp [RelAt]
  | o, t :: ts, r => by
    simp only [RelAt] at r ⊢
    obtain ⟨⟨v, hc, h1, hr⟩, hrs⟩ := r
    exact ⟨⟨v, h.cell hn hc, h1, RelT.keep h hW t v hr⟩, RelAt.keep h hW hb hn (o + 1) ts hrs⟩
theorem RelRows.keep {w w' : World} {W W' : Nat → Prop} (h : KeepsC W w w') (hW : ∀ b, b < w.heap.size → W' b → W b) {b : Nat} (hb : b < w.heap.size) (hn : ¬ W b) (sz : Nat) : ∀ (o : Nat) (rs : List (List T)), RelRows w W sz b o rs → RelRows w' W' sz b o rs
  | _, [], _ => by simp [RelRows]
  | o, r :: rs, x => by
    simp only [RelRows] at x ⊢
    exact ⟨x.1, RelAt.keep h hW hb hn o r x.2.1, RelRows.keep h hW hb hn sz (o + sz) rs x.2.2⟩
end

section
variable {w : World} {W : Nat → Prop}
theorem RelRows.row {sz b : Nat} : ∀ {rows : List (List T)} {o i : Nat} {r : List T}, RelRows w W sz b o rows → rows[i]? = some r → r.length = sz ∧ RelAt w W b (o + i * sz) r
  | [], _, _, _, _, h => by simp at h
  | x :: xs, o, 0, r, hr, h => by
    simp only [RelRows] at hr
    simp only [List.getElem?_cons_zero, Option.some.injEq] at h
    subst h
    simpa using ⟨hr.1, hr.2.1⟩
  | x :: xs, o, i + 1, r, hr, h => by
    simp only [RelRows] at hr
    simp only [List.getElem?_cons_succ] at h
    have := RelRows.row hr.2.2 h
    rw [show o + (i + 1) * sz = o + sz + i * sz by rw [Nat.add_mul]; omega]
    exact this
theorem RelAt.cell {b : Nat} : ∀ {ts : List T} {o j : Nat} {t : T}, RelAt w W b o ts → ts[j]? = some t → ∃ v, w.cell? ⟨b, o + j, none⟩ = some v ∧ v.oneCell' = true ∧ RelT w W t v
  | [], _, _, _, _, h => by simp at h
  | x :: xs, o, 0, t, hr, h => by
    simp only [RelAt] at hr
    simp only [List.getElem?_cons_zero, Option.some.injEq] at h
    subst h
    simpa using hr.1
  | x :: xs, o, j + 1, t, hr, h => by
    simp only [RelAt] at hr
    simp only [List.getElem?_cons_succ] at h
    have := RelAt.cell hr.2 h
    rw [show o + (j + 1) = o + 1 + j by omega]
    exact this
theorem RelAt.of_cells {b : Nat} : ∀ (ts : List T) (o : Nat), (∀ j t, ts[j]? = some t → ∃ v, w.cell? ⟨b, o + j, none⟩ = some v ∧ v.oneCell' = true ∧ RelT w W t v) → RelAt w W b o ts
  | [], _, _ => by simp [RelAt]
  | t :: ts, o, h => by
    simp only [RelAt]
    refine ⟨by simpa using h 0 t (by simp), RelAt.of_cells ts (o + 1) fun j u hu => ?_⟩
    have := h (j + 1) u (by simpa using hu)
    rwa [show o + 1 + j = o + (j + 1) by omega]
theorem RelRows.of_rows {sz b : Nat} : ∀ (rs : List (List T)) (o : Nat), (∀ i r, rs[i]? = some r → r.length = sz ∧ RelAt w W b (o + i * sz) r) → RelRows w W sz b o rs
  | [], _, _ => by simp [RelRows]
  | r :: rs, o, h => by
    simp only [RelRows]
    have h0 := h 0 r (by simp)
    refine ⟨h0.1, by simpa using h0.2, RelRows.of_rows rs (o + sz) fun i u hu => ?_⟩
    have := h (i + 1) u (by simpa using hu)
    rwa [show o + sz + i * sz = o + (i + 1) * sz by rw [Nat.add_mul]; omega]
theorem RelL.length : ∀ {ts : List T} {vs : List Value}, RelL w W ts vs → vs.length = ts.length
  | [], _, h => by simp only [RelL] at h; simp [h]
  | _ :: ts, _, h => by
    simp only [RelL] at h
    obtain ⟨v, vs', rfl, _, _, hr⟩ := h
    simp [RelL.length hr]
theorem RelA.length : ∀ {ts : List T} {vs : List Value}, RelA w W ts vs → vs.length = ts.length
  | [], _, h => by simp only [RelA] at h; simp [h]
  | _ :: ts, _, h => by
    simp only [RelA] at h
    obtain ⟨v, vs', rfl, _, hr⟩ := h
    simp [RelA.length hr]
theorem RelL.get : ∀ {ts : List T} {vs : List Value} {i : Nat} {t : T}, RelL w W ts vs → ts[i]? = some t → ∃ v, vs[i]? = some v ∧ v.oneCell' = true ∧ RelT w W t v
  | [], _, _, _, _, h => by simp at h
  | x :: xs, _, 0, t, hr, h => by
    simp only [RelL] at hr
    obtain ⟨v, vs', rfl, h1, h2, _⟩ := hr
    simp only [List.getElem?_cons_zero, Option.some.injEq] at h
    subst h
    exact ⟨v, rfl, h1, h2⟩
  | x :: xs, _, i + 1, t, hr, h => by
    simp only [RelL] at hr
    obtain ⟨v, vs', rfl, _, _, hr⟩ := hr
    simpa using RelL.get hr (by simpa using h)
theorem RelA.get : ∀ {ts : List T} {vs : List Value} {i : Nat} {t : T}, RelA w W ts vs → ts[i]? = some t → ∃ v, vs[i]? = some v ∧ RelT w W t v
  | [], _, _, _, _, h => by simp at h
  | x :: xs, _, 0, t, hr, h => by
    simp only [RelA] at hr
    obtain ⟨v, vs', rfl, h2, _⟩ := hr
    simp only [List.getElem?_cons_zero, Option.some.injEq] at h
    subst h
    exact ⟨v, rfl, h2⟩
  | x :: xs, _, i + 1, t, hr, h => by
    simp only [RelA] at hr
    obtain ⟨v, vs', rfl, _, hr⟩ := hr
    simpa using RelA.get hr (by simpa using h)
theorem RelL.of_get : ∀ {ts : List T} {vs : List Value}, vs.length = ts.length → (∀ (i : Nat) (t : T) (v : Value), ts[i]? = some t → vs[i]? = some v → v.oneCell' = true ∧ RelT w W t v) → RelL w W ts vs
  | [], vs, h, _ => by simp only [RelL]; simpa using h
  | t :: ts, [], h, _ => by simp at h
  | t :: ts, v :: vs, h, k => by
    simp only [RelL]
    refine ⟨v, vs, rfl, (k 0 t v rfl rfl).1, (k 0 t v rfl rfl).2, RelL.of_get (by simpa using h) fun i u x hu hx => k (i + 1) u x (by simpa using hu) (by simpa using hx)⟩
theorem RelA.of_get : ∀ {ts : List T} {vs : List Value}, vs.length = ts.length → (∀ (i : Nat) (t : T) (v : Value), ts[i]? = some t → vs[i]? = some v → RelT w W t v) → RelA w W ts vs
  | [], vs, h, _ => by simp only [RelA]; simpa using h
  | t :: ts, [], h, _ => by simp at h
  | t :: ts, v :: vs, h, k => by
    simp only [RelA]
    refine ⟨v, vs, rfl, k 0 t v rfl rfl, RelA.of_get (by simpa using h) fun i u x hu hx => k (i + 1) u x (by simpa using hu) (by simpa using hx)⟩
end
end Go.DM
