/- The D-machine, part C: when a state of the machine describes a frame and a world of the model. Conditions: none. -/
import Derived.Test.YtecgedikabjcdaaDmB
set_option linter.unusedVariables false
namespace Go.DM
open Go.RowKit

/-- The world outside: what stood there before and may not be written is as it was. -/
structure Fr (base : Nat) (M : Nat → Prop) (w0 w : World) : Prop where
  os : w.os = w0.os
  tape : w.tape = w0.tape
  output : w.output = w0.output
  size0 : base ≤ w0.heap.size
  size : w0.heap.size ≤ w.heap.size
  block : ∀ k, k < base → ¬ M k → w.heap[k]? = w0.heap[k]?

theorem Fr.refl {base : Nat} {M : Nat → Prop} {w : World} (h : base ≤ w.heap.size) : Fr base M w w := ⟨rfl, rfl, rfl, h, Nat.le_refl _, fun _ _ _ => rfl⟩
theorem Fr.trans {base : Nat} {M : Nat → Prop} {a b c : World} (h : Fr base M a b) (k : Fr base M b c) : Fr base M a c :=
  ⟨k.os.trans h.os, k.tape.trans h.tape, k.output.trans h.output, h.size0, Nat.le_trans h.size k.size, fun i hi hm => (k.block i hi hm).trans (h.block i hi hm)⟩

/-- Where the objects lie: the block of each box, the slice value of each array. -/
structure Loc where
  blk : Nat → Nat
  sl : Nat → Value
  yl : Nat := 0     -- the record of the loop whose body is handed to this iterator

/-- The block of a slice value with room. -/
def capBlock : Value → Option Nat
  | .slice (some a) _ c => if c = 0 then none else some a.block
  | _ => none

/-- The block of an object. -/
def Loc.own (L : Loc) (r : Nat) : Ob → Option Nat
  | .box _ => some (L.blk r)
  | .arr _ _ _ _ => capBlock (L.sl r)

/-- The blocks that may still be written: those of the callers, and those of the objects. -/
def WW (W : Nat → Prop) (objs : Obs) (L : Loc) (b : Nat) : Prop := W b ∨ ∃ r o, objs r = some o ∧ L.own r o = some b

section
variable (w : World) (W : Nat → Prop) (objs : Obs) (L : Loc)
mutual
def RelD : DV → Value → Prop
  | .undef, _ => True
  | .skip, x => x = Go.undef
  | .v t, x => RelT w (WW W objs L) t x
  | .nil0, x => ∃ a : Option Addr, x = .slice a 0 0
  | .ptr r off, x => (∃ cs, objs r = some (.box cs)) ∧ x = .pointer (some ⟨L.blk r, off, none⟩)
  | .aref r ver, x => (∃ (p : Option Addr) (n c : Nat), x = .slice p n c) ∧ ∃ ver' e sz rows, objs r = some (.arr ver' e sz rows) ∧ ver ≤ ver' ∧ (ver = ver' → x = L.sl r)
  | .tptr rows i off, x => ∃ b o sz, x = .pointer (some ⟨b, o + i.toNat * sz + off, none⟩) ∧ b < w.heap.size ∧ ¬ WW W objs L b ∧ RelRows w (WW W objs L) sz b o rows ∧ 0 ≤ i ∧ i < rows.length
  | .bptr cs off, x => ∃ b o, x = .pointer (some ⟨b, o + off, none⟩) ∧ b < w.heap.size ∧ ¬ WW W objs L b ∧ RelAt w (WW W objs L) b o cs
  | .aptr r ver i off, x => (∃ b o, x = .pointer (some ⟨b, o, none⟩)) ∧ ∃ ver' e sz rows, objs r = some (.arr ver' e sz rows) ∧ ver ≤ ver' ∧ (ver = ver' → ∃ g, capBlock (L.sl r) = some g ∧ x = .pointer (some ⟨g, i.toNat * sz + off, none⟩) ∧ 0 ≤ i ∧ i < rows.length)
  | .agg cs, x => ∃ vs, x = .agg vs ∧ RelDs cs vs.toList
  | .yld, x => x = .func (.yield L.yl) #[] #[]
def RelDs : List DV → List Value → Prop
  | [], vs => vs = []
  | d :: ds, vs => ∃ x vs', vs = x :: vs' ∧ x.oneCell' = true ∧ RelD d x ∧ RelDs ds vs'
end

/-- An object and what lies in the world. -/
def ObOk (base : Nat) (M : Nat → Prop) (r : Nat) : Ob → Prop
  | .box cs => ∃ c e, w.heap[L.blk r]? = some (.cells c e (0, 0)) ∧ RelDs w W objs L cs c.toList ∧ (base ≤ L.blk r ∨ M (L.blk r))
  | .arr _ e sz rows => 0 < sz ∧ (∀ x ∈ rows, x.length = sz) ∧ (∀ g, capBlock (L.sl r) = some g → base ≤ g ∨ M g) ∧
      ((rows = [] ∧ ∃ a : Option Addr, L.sl r = .slice a 0 0) ∨
       ∃ g cap cur, L.sl r = .slice (some ⟨g, 0, none⟩) rows.length cap ∧ 0 < cap ∧ w.heap[g]? = some (.cells cur e (0, 0)) ∧ rows.length ≤ cap ∧ cap ≤ maxLen ∧ cur.size = cap * sz ∧
         RelL w (WW W objs L) rows.flatten (cur.toList.take (rows.length * sz)))
end


/-- The objects and the world fit. -/
structure RelO (base : Nat) (W M : Nat → Prop) (w0 : World) (objs : Obs) (w : World) (L : Loc) : Prop where
  fr : Fr base M w0 w
  ob : ∀ r o, objs r = some o → ObOk w W objs L base M r o
  apart : ∀ r r' o o' b, r ≠ r' → objs r = some o → objs r' = some o' → L.own r o = some b → L.own r' o' ≠ some b
  outer : ∀ r o b, objs r = some o → L.own r o = some b → ¬ W b
  under : ∀ b, W b → b < base

/-- One step on: what was described before is described after. -/
structure Adv2 (W W' : Nat → Prop) (objs : Obs) (L : Loc) (w : World) (objs' : Obs) (L' : Loc) (w' : World) : Prop where
  keeps : Keeps (WW W objs L) w w'
  sub : ∀ b, b < w.heap.size → WW W' objs' L' b → WW W objs L b
  box : ∀ r cs, objs r = some (.box cs) → L'.blk r = L.blk r ∧ ∃ cs', objs' r = some (.box cs')
  arr : ∀ r ver e sz rows, objs r = some (.arr ver e sz rows) → ∃ ver' e' sz' rows', objs' r = some (.arr ver' e' sz' rows') ∧ ver ≤ ver' ∧ (ver' = ver → L'.sl r = L.sl r ∧ sz' = sz ∧ rows'.length = rows.length)
  yl : L'.yl = L.yl

abbrev Adv (W : Nat → Prop) (objs : Obs) (L : Loc) (w : World) (objs' : Obs) (L' : Loc) (w' : World) : Prop := Adv2 W W objs L w objs' L' w'

theorem Adv.refl_of_keeps {W : Nat → Prop} {objs : Obs} {L : Loc} {w w' : World} (h : Keeps (WW W objs L) w w') : Adv W objs L w objs L w' :=
  ⟨h, fun _ _ x => x, fun _ cs hr => ⟨rfl, cs, hr⟩, fun _ ver e sz rows hr => ⟨ver, e, sz, rows, hr, Nat.le_refl _, fun _ => ⟨rfl, rfl, rfl⟩⟩, rfl⟩

mutual
theorem RelD.adv {W W' : Nat → Prop} {objs objs' : Obs} {L L' : Loc} {w w' : World} (h : Adv2 W W' objs L w objs' L' w') : ∀ (d : DV) (x : Value), RelD w W objs L d x → RelD w' W' objs' L' d x
  | .undef, x, r => by simp [RelD]
  | .skip, x, r => by simpa [RelD] using r
  | .v t, x, r => by
    simp only [RelD] at r ⊢
    exact RelT.keep h.keeps.toKeepsC h.sub t x r
  | .nil0, x, r => by simpa [RelD] using r
  | .ptr n off, x, r => by
    simp only [RelD] at r ⊢
    obtain ⟨⟨cs, hc⟩, hx⟩ := r
    have hb := h.box n cs hc
    exact ⟨hb.2, by rw [hb.1]; exact hx⟩
  | .aref n ver, x, r => by
    simp only [RelD] at r ⊢
    obtain ⟨hsh, ver', e, sz, rows, ho, hle, hx⟩ := r
    obtain ⟨ver2, e2, sz2, rows2, ho2, hle2, hs⟩ := h.arr n ver' e sz rows ho
    refine ⟨hsh, ver2, e2, sz2, rows2, ho2, Nat.le_trans hle hle2, fun hv => ?_⟩
    have h1 : ver2 = ver' := by omega
    rw [(hs h1).1]
    exact hx (by omega)
  | .tptr rows i off, x, r => by
    simp only [RelD] at r ⊢
    obtain ⟨b, o, sz, hx, hb, hn, hr, h0, h1⟩ := r
    exact ⟨b, o, sz, hx, Nat.lt_of_lt_of_le hb h.keeps.size, fun c => hn (h.sub b hb c), RelRows.keep h.keeps.toKeepsC h.sub hb hn sz o rows hr, h0, h1⟩
  | .bptr cs off, x, r => by
    simp only [RelD] at r ⊢
    obtain ⟨b, o, hx, hb, hn, hr⟩ := r
    exact ⟨b, o, hx, Nat.lt_of_lt_of_le hb h.keeps.size, fun c => hn (h.sub b hb c), RelAt.keep h.keeps.toKeepsC h.sub hb hn o cs hr⟩
  | .aptr n ver i off, x, r => by
    simp only [RelD] at r ⊢
    obtain ⟨hsh, ver', e, sz, rows, ho, hle, hx⟩ := r
    obtain ⟨ver2, e2, sz2, rows2, ho2, hle2, hs⟩ := h.arr n ver' e sz rows ho
    refine ⟨hsh, ver2, e2, sz2, rows2, ho2, Nat.le_trans hle hle2, fun hv => ?_⟩
    have h1 : ver2 = ver' := by omega
    obtain ⟨g, hg, hp, h0, hl⟩ := hx (by omega)
    obtain ⟨s1, s2, s3⟩ := hs h1
    exact ⟨g, by rw [s1]; exact hg, by rw [s2]; exact hp, h0, by rw [s3]; exact hl⟩
  | .agg cs, x, r => by
    simp only [RelD] at r ⊢
    obtain ⟨vs, hv, hr⟩ := r
    exact ⟨vs, hv, RelDs.adv h cs _ hr⟩
  | .yld, x, r => by simp only [RelD] at r ⊢; rw [h.yl]; exact r
theorem RelDs.adv {W W' : Nat → Prop} {objs objs' : Obs} {L L' : Loc} {w w' : World} (h : Adv2 W W' objs L w objs' L' w') : ∀ (ds : List DV) (xs : List Value), RelDs w W objs L ds xs → RelDs w' W' objs' L' ds xs
  | [], xs, r => by simpa [RelDs] using r
  | d :: ds, xs, r => by
    simp only [RelDs] at r ⊢
    obtain ⟨x, xs', hx, h1, hr, hrs⟩ := r
    exact ⟨x, xs', hx, h1, RelD.adv h d x hr, RelDs.adv h ds xs' hrs⟩
end

section
variable {w : World} {W : Nat → Prop} {objs : Obs} {L : Loc}
theorem RelDs.length : ∀ {ds : List DV} {vs : List Value}, RelDs w W objs L ds vs → vs.length = ds.length
  | [], _, h => by simp only [RelDs] at h; simp [h]
  | _ :: ds, _, h => by
    simp only [RelDs] at h
    obtain ⟨v, vs', rfl, _, _, hr⟩ := h
    simp [RelDs.length hr]
theorem RelDs.get : ∀ {ds : List DV} {vs : List Value} {i : Nat} {d : DV}, RelDs w W objs L ds vs → ds[i]? = some d → ∃ v, vs[i]? = some v ∧ v.oneCell' = true ∧ RelD w W objs L d v
  | [], _, _, _, _, h => by simp at h
  | x :: xs, _, 0, t, hr, h => by
    simp only [RelDs] at hr
    obtain ⟨v, vs', rfl, h1, h2, _⟩ := hr
    simp only [List.getElem?_cons_zero, Option.some.injEq] at h
    subst h
    exact ⟨v, rfl, h1, h2⟩
  | x :: xs, _, i + 1, t, hr, h => by
    simp only [RelDs] at hr
    obtain ⟨v, vs', rfl, _, _, hr⟩ := hr
    simpa using RelDs.get hr (by simpa using h)
theorem RelDs.of_get : ∀ {ds : List DV} {vs : List Value}, vs.length = ds.length → (∀ (i : Nat) (t : DV) (v : Value), ds[i]? = some t → vs[i]? = some v → v.oneCell' = true ∧ RelD w W objs L t v) → RelDs w W objs L ds vs
  | [], vs, h, _ => by simp only [RelDs]; simpa using h
  | t :: ts, [], h, _ => by simp at h
  | t :: ts, v :: vs, h, k => by
    simp only [RelDs]
    refine ⟨v, vs, rfl, (k 0 t v rfl rfl).1, (k 0 t v rfl rfl).2, RelDs.of_get (by simpa using h) fun i u x hu hx => k (i + 1) u x (by simpa using hu) (by simpa using hx)⟩
theorem RelDs.append : ∀ {ds ds' : List DV} {vs vs' : List Value}, RelDs w W objs L ds vs → RelDs w W objs L ds' vs' → RelDs w W objs L (ds ++ ds') (vs ++ vs')
  | [], _, _, _, h, h' => by simp only [RelDs] at h; subst h; simpa using h'
  | d :: ds, _, _, _, h, h' => by
    simp only [RelDs] at h
    obtain ⟨v, vs', rfl, h1, h2, hr⟩ := h
    simp only [List.cons_append, RelDs]
    exact ⟨v, _, rfl, h1, h2, RelDs.append hr h'⟩
theorem RelDs.take (n : Nat) {ds : List DV} {vs : List Value} (h : RelDs w W objs L ds vs) : RelDs w W objs L (ds.take n) (vs.take n) := by
  induction n generalizing ds vs with
  | zero => simp [RelDs]
  | succ n ih =>
    cases ds with
    | nil => simp only [RelDs] at h; subst h; simp [RelDs]
    | cons d ds =>
      simp only [RelDs] at h
      obtain ⟨v, vs', rfl, h1, h2, hr⟩ := h
      simp only [List.take_succ_cons, RelDs]
      exact ⟨v, _, rfl, h1, h2, ih hr⟩
theorem RelDs.drop (n : Nat) {ds : List DV} {vs : List Value} (h : RelDs w W objs L ds vs) : RelDs w W objs L (ds.drop n) (vs.drop n) := by
  induction n generalizing ds vs with
  | zero => simpa using h
  | succ n ih =>
    cases ds with
    | nil => simp only [RelDs] at h; subst h; simp [RelDs]
    | cons d ds =>
      simp only [RelDs] at h
      obtain ⟨v, vs', rfl, h1, h2, hr⟩ := h
      simpa using ih hr
theorem RelL.append {ts ts' : List T} : ∀ {vs vs' : List Value}, RelL w W ts vs → RelL w W ts' vs' → RelL w W (ts ++ ts') (vs ++ vs') := by
  induction ts with
  | nil => intro vs vs' h h'; simp only [RelL] at h; subst h; simpa using h'
  | cons d ds ih =>
    intro vs vs' h h'
    simp only [RelL] at h
    obtain ⟨v, vs', rfl, h1, h2, hr⟩ := h
    simp only [List.cons_append, RelL]
    exact ⟨v, _, rfl, h1, h2, ih hr h'⟩
theorem RelDs.of_relL : ∀ {ts : List T} {vs : List Value}, RelL w (WW W objs L) ts vs → RelDs w W objs L (ts.map .v) vs
  | [], _, h => by simpa [RelL, RelDs] using h
  | t :: ts, _, h => by
    simp only [RelL] at h
    obtain ⟨v, vs', rfl, h1, h2, hr⟩ := h
    simp only [List.map_cons, RelDs]
    exact ⟨v, vs', rfl, h1, by simpa [RelD] using h2, RelDs.of_relL hr⟩
/-- The cells of a value. -/
theorem RelD.cells {d : DV} {x : Value} (h : RelD w W objs L d x) (hb : boxable d) : RelDs w W objs L (cellsOf d) x.cells.toList := by
  have one : ∀ {d : DV} {x : Value}, cellsOf d = [d] → x.oneCell' = true → RelD w W objs L d x → RelDs w W objs L (cellsOf d) x.cells.toList := by
    intro d x hc h1 h
    rw [hc]
    simp only [RelDs]
    refine ⟨x, [], ?_, h1, h, rfl⟩
    cases x <;> first | rfl | (simp [Value.oneCell'] at h1)
  cases d with
  | undef => exact hb.elim
  | skip => exact hb.elim
  | nil0 => obtain ⟨a, rfl⟩ := (by simpa only [RelD] using h); exact one rfl rfl (by simp only [RelD]; exact ⟨a, rfl⟩)
  | ptr r off => have h' := h; simp only [RelD] at h'; obtain ⟨_, rfl⟩ := h'; exact one rfl rfl h
  | aref r ver => have h' := h; simp only [RelD] at h'; obtain ⟨⟨p, n, c, rfl⟩, _⟩ := h'; exact one rfl rfl h
  | tptr rows i off => have h' := h; simp only [RelD] at h'; obtain ⟨b, o, sz, rfl, _⟩ := h'; exact one rfl rfl h
  | bptr cs off => have h' := h; simp only [RelD] at h'; obtain ⟨b, o, rfl, _⟩ := h'; exact one rfl rfl h
  | aptr r ver i off => have h' := h; simp only [RelD] at h'; obtain ⟨⟨b, o, rfl⟩, _⟩ := h'; exact one rfl rfl h
  | agg cs => simp only [RelD] at h; obtain ⟨vs, rfl, h⟩ := h; simpa [cellsOf, Value.cells] using h
  | yld => have h' := h; simp only [RelD] at h'; subst h'; exact one rfl rfl h
  | v t =>
    cases t with
    | agg cs => simp only [RelD, RelT] at h; obtain ⟨vs, rfl, h⟩ := h; simpa [cellsOf, Value.cells] using RelDs.of_relL h
    | tup ts => exact hb.elim
    | bool b => have h' := h; simp only [RelD, RelT] at h'; subst h'; exact one rfl rfl h
    | int k n => have h' := h; simp only [RelD, RelT] at h'; subst h'; exact one rfl rfl h
    | str s => have h' := h; simp only [RelD, RelT] at h'; subst h'; exact one rfl rfl h
    | sl rows =>
      have h' := h
      simp only [RelD, RelT] at h'
      rcases h' with ⟨_, a, c, rfl⟩ | ⟨b, o, cap, sz, rfl, _⟩ <;> exact one rfl rfl h
    | fn f caps => have h' := h; simp only [RelD, RelT] at h'; obtain ⟨vs, rfl, _⟩ := h'; exact one rfl rfl h
    | box cs => have h' := h; simp only [RelD, RelT] at h'; obtain ⟨b, o, rfl, _⟩ := h'; exact one rfl rfl h
    | raw y => have h' := h; simp only [RelD, RelT] at h'; subst h'; exact one rfl hb h
end

theorem ObOk.lt {base : Nat} {M : Nat → Prop} {w : World} {W : Nat → Prop} {objs : Obs} {L : Loc} {r : Nat} {o : Ob} (h : ObOk w W objs L base M r o) {b : Nat} (hb : L.own r o = some b) : b < w.heap.size := by
  cases o with
  | box cs =>
    obtain ⟨c, e, hc, _⟩ := h
    simp only [Loc.own, Option.some.injEq] at hb
    subst hb
    exact (Array.getElem?_eq_some_iff.1 hc).1
  | arr ver e sz rows =>
    obtain ⟨_, _, _, h⟩ := h
    simp only [Loc.own] at hb
    rcases h with ⟨_, a, ha⟩ | ⟨g, cap, cur, hv, hp, hg, _⟩
    · rw [ha] at hb; cases a <;> simp [capBlock] at hb
    · rw [hv] at hb
      simp only [capBlock, if_neg (Nat.pos_iff_ne_zero.1 hp), Option.some.injEq] at hb
      subst hb
      exact (Array.getElem?_eq_some_iff.1 hg).1
theorem ObOk.reach {base : Nat} {M : Nat → Prop} {w : World} {W : Nat → Prop} {objs : Obs} {L : Loc} {r : Nat} {o : Ob} (h : ObOk w W objs L base M r o) {b : Nat} (hb : L.own r o = some b) : base ≤ b ∨ M b := by
  cases o with
  | box cs =>
    obtain ⟨c, e, hc, _, hm⟩ := h
    simp only [Loc.own, Option.some.injEq] at hb
    subst hb
    exact hm
  | arr ver e sz rows =>
    obtain ⟨_, _, hm, _⟩ := h
    exact hm b hb

theorem ObOk.keep {base : Nat} {M : Nat → Prop} {w w' : World} {W : Nat → Prop} {objs objs' : Obs} {L L' : Loc} {r : Nat} {o : Ob} (ha : Adv W objs L w objs' L' w')
    (h : ObOk w W objs L base M r o) (hown : L'.blk r = L.blk r ∧ L'.sl r = L.sl r) (hblk : ∀ b, L.own r o = some b → w'.heap[b]? = w.heap[b]?) : ObOk w' W objs' L' base M r o := by
  cases o with
  | box cs =>
    obtain ⟨c, e, hc, hr, hm⟩ := h
    refine ⟨c, e, ?_, RelDs.adv ha cs _ hr, ?_⟩
    · rw [hown.1, hblk _ rfl]; exact hc
    · rw [hown.1]; exact hm
  | arr ver e sz rows =>
    obtain ⟨hsz, hrows, hm, h⟩ := h
    refine ⟨hsz, hrows, by rw [hown.2]; exact hm, ?_⟩
    rw [hown.2]
    rcases h with h | ⟨g, cap, cur, hv, hp, hg, h1, h2, h3, h4⟩
    · exact .inl h
    · refine .inr ⟨g, cap, cur, hv, hp, ?_, h1, h2, h3, RelL.keep ha.keeps.toKeepsC ha.sub _ _ h4⟩
      rw [hblk g (by simp [Loc.own, hv, capBlock, Nat.pos_iff_ne_zero.1 hp])]
      exact hg

theorem ObOk.cells {base : Nat} {M : Nat → Prop} {w : World} {W : Nat → Prop} {objs : Obs} {L : Loc} {r : Nat} {o : Ob} (h : ObOk w W objs L base M r o) {b : Nat} (hb : L.own r o = some b) : ∃ c e, w.heap[b]? = some (.cells c e (0, 0)) := by
  cases o with
  | box cs =>
    obtain ⟨c, e, hc, _⟩ := h
    simp only [Loc.own, Option.some.injEq] at hb
    subst hb
    exact ⟨c, e, hc⟩
  | arr ver e sz rows =>
    obtain ⟨_, _, _, h⟩ := h
    simp only [Loc.own] at hb
    rcases h with ⟨_, a, ha⟩ | ⟨g, cap, cur, hv, hp, hg, _⟩
    · rw [ha] at hb; cases a <;> simp [capBlock] at hb
    · rw [hv] at hb
      simp only [capBlock, if_neg (Nat.pos_iff_ne_zero.1 hp), Option.some.injEq] at hb
      subst hb
      exact ⟨_, _, hg⟩

def putO (objs : Obs) : Option (Nat × Ob) → Obs
  | none => objs
  | some (r, o) => fun x => if x = r then some o else objs x

/-- One object is laid or turned. -/
theorem RelO.put {base : Nat} {W M : Nat → Prop} {w0 w w' : World} {objs : Obs} {L L' : Loc} {r : Nat} {o' : Ob} (h : RelO base W M w0 objs w L)
    (hfr : Fr base M w0 w') (hsz : w.heap.size ≤ w'.heap.size)
    (hL : ∀ x, x ≠ r → L'.blk x = L.blk x ∧ L'.sl x = L.sl x) (hyl : L'.yl = L.yl)
    (hheap : ∀ b, b < w.heap.size → (∀ o, objs r = some o → L.own r o ≠ some b) → w'.heap[b]? = w.heap[b]?)
    (hnew : ∀ b, L'.own r o' = some b → (∃ o, objs r = some o ∧ L.own r o = some b) ∨ w.heap.size ≤ b)
    (hbox : ∀ cs, objs r = some (.box cs) → L'.blk r = L.blk r ∧ ∃ cs', o' = .box cs')
    (harr : ∀ ver e sz rows, objs r = some (.arr ver e sz rows) → ∃ ver' e' sz' rows', o' = .arr ver' e' sz' rows' ∧ ver ≤ ver' ∧ (ver' = ver → L'.sl r = L.sl r ∧ sz' = sz ∧ rows'.length = rows.length))
    (hob : Adv W objs L w (putO objs (some (r, o'))) L' w' → ObOk w' W (putO objs (some (r, o'))) L' base M r o') :
    RelO base W M w0 (putO objs (some (r, o'))) w' L' ∧ Adv W objs L w (putO objs (some (r, o'))) L' w' := by
  have hown : ∀ x (o : Ob), x ≠ r → L'.own x o = L.own x o := fun x o hx => by
    have := hL x hx
    cases o <;> simp [Loc.own, this.1, this.2]
  have hother : ∀ x o b, x ≠ r → objs x = some o → L.own x o = some b → w'.heap[b]? = w.heap[b]? := fun x o b hx ho hb =>
    hheap b ((h.ob x o ho).lt hb) fun o2 ho2 hb2 => h.apart x r o o2 b hx ho ho2 hb hb2
  have hnon : ∀ (b : Nat) x, w.heap[b]? = some x → (∀ c e fr, x ≠ .cells c e fr) → w'.heap[b]? = some x := fun b x hb hx => by
    refine (hheap b (Array.getElem?_eq_some_iff.1 hb).1 fun o ho hb2 => ?_).trans hb
    obtain ⟨c, e, hc⟩ := (h.ob r o ho).cells hb2
    rw [hc] at hb
    cases hb
    exact hx _ _ _ rfl
  have adv : Adv W objs L w (putO objs (some (r, o'))) L' w' := by
    refine ⟨⟨⟨hsz, fun b c e fr hb hn => ?_⟩, fun b hb => hnon b _ hb (fun _ _ _ e => by cases e), fun b r hb => hnon b _ hb (fun _ _ _ e => by cases e)⟩, fun b hb hw => ?_, fun x cs hx => ?_, fun x ver e sz rows hx => ?_, hyl⟩
    · exact (hheap b (Array.getElem?_eq_some_iff.1 hb).1 fun o2 ho2 hb2 => hn (.inr ⟨r, o2, ho2, hb2⟩)).trans hb
    · rcases hw with hw | ⟨x, o, ho, hb2⟩
      · exact .inl hw
      · by_cases hx : x = r
        · subst hx
          simp only [putO, if_true] at ho
          obtain rfl : o' = o := by simpa using ho
          rcases hnew b hb2 with ⟨o2, ho2, hb3⟩ | hge
          · exact .inr ⟨x, o2, ho2, hb3⟩
          · omega
        · simp only [putO, if_neg hx] at ho
          exact .inr ⟨x, o, ho, by rw [← hown x o hx]; exact hb2⟩
    · by_cases hxr : x = r
      · subst hxr
        obtain ⟨h1, cs', rfl⟩ := hbox cs hx
        exact ⟨h1, cs', by simp [putO]⟩
      · exact ⟨(hL x hxr).1, cs, by simp [putO, hxr, hx]⟩
    · by_cases hxr : x = r
      · subst hxr
        obtain ⟨ver', e', sz', rows', rfl, h2, h3⟩ := harr ver e sz rows hx
        exact ⟨ver', e', sz', rows', by simp [putO], h2, h3⟩
      · exact ⟨ver, e, sz, rows, by simp [putO, hxr, hx], Nat.le_refl _, fun _ => ⟨(hL x hxr).2, rfl, rfl⟩⟩
  refine ⟨⟨hfr, fun x o ho => ?_, fun x x' o o2 b hne ho ho2 hb hb2 => ?_, fun x o b ho hb hw => ?_, h.under⟩, adv⟩
  · by_cases hx : x = r
    · subst hx
      simp only [putO, if_true] at ho
      obtain rfl : o' = o := by simpa using ho
      exact hob adv
    · simp only [putO, if_neg hx] at ho
      exact ObOk.keep adv (h.ob x o ho) (hL x hx) fun b hb => hother x o b hx ho hb
  · by_cases hx : x = r
    · subst hx
      simp only [putO, if_true] at ho
      obtain rfl : o' = o := by simpa using ho
      have hx' : x' ≠ x := fun e => hne e.symm
      simp only [putO, if_neg hx'] at ho2
      rw [hown x' o2 hx'] at hb2
      rcases hnew b hb with ⟨o3, ho3, hb3⟩ | hge
      · exact h.apart x' x o2 o3 b hx' ho2 ho3 hb2 hb3
      · have := (h.ob x' o2 ho2).lt hb2
        omega
    · simp only [putO, if_neg hx] at ho
      rw [hown x o hx] at hb
      by_cases hx' : x' = r
      · subst hx'
        simp only [putO, if_true] at ho2
        obtain rfl : o' = o2 := by simpa using ho2
        rcases hnew b hb2 with ⟨o3, ho3, hb3⟩ | hge
        · exact h.apart x x' o o3 b hne ho ho3 hb hb3
        · have := (h.ob x o ho).lt hb
          omega
      · simp only [putO, if_neg hx'] at ho2
        rw [hown x' o2 hx'] at hb2
        exact h.apart x x' o o2 b hne ho ho2 hb hb2
  · by_cases hx : x = r
    · subst hx
      simp only [putO, if_true] at ho
      obtain rfl : o' = o := by simpa using ho
      rcases hnew b hb with ⟨o3, ho3, hb3⟩ | hge
      · exact h.outer x o3 b ho3 hb3 hw
      · have h1 := h.under b hw
        have h2 := h.fr.size0
        have h3 := h.fr.size
        omega
    · simp only [putO, if_neg hx] at ho
      rw [hown x o hx] at hb
      exact h.outer x o b ho hb hw

/-- The world grows, nothing else. -/
theorem RelO.grow {base : Nat} {W M : Nat → Prop} {w0 w w' : World} {objs : Obs} {L : Loc} (h : RelO base W M w0 objs w L) (hb : Below w.heap.size w w') :
    RelO base W M w0 objs w' L ∧ Adv W objs L w objs L w' := by
  have adv : Adv W objs L w objs L w' := Adv.refl_of_keeps (Keeps.of_below hb)
  have hle : base ≤ w.heap.size := Nat.le_trans h.fr.size0 h.fr.size
  refine ⟨⟨h.fr.trans ⟨hb.os, hb.tape, hb.output, hle, hb.size, fun k hk _ => hb.block k (by omega)⟩, fun r o ho => ?_, h.apart, h.outer, h.under⟩, adv⟩
  exact ObOk.keep adv (h.ob r o ho) ⟨rfl, rfl⟩ fun b hb2 => hb.block b ((h.ob r o ho).lt hb2)

end Go.DM
