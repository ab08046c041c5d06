/- Lattices and inputs as Lean data, and their trees; the map of the builder. Conditions: none. -/
import Derived.Test.YtlimlhidndflhaaDoorJ0a
namespace Go.Proofs
open Go.DM
set_option linter.unusedSimpArgs false
set_option linter.unusedVariables false

abbrev ti (n : Int) : T := .int .i64 n
def unti : T → Int
  | .int _ n => n
  | _ => 0
structure Arc where
  (f t term cost : Int)
  ops : List (Int × Int)
  deriving DecidableEq, Inhabited
structure Lattice where
  states : Int
  arcs : List Arc
  final : List Int
structure Column where
  kind : Int
  read : List Int
  delete : Int
  deriving Inhabited
structure Input where
  columns : List Column
  insert : List Int
  swap : Int
def opsT (l : List (Int × Int)) : List (List T) := l.map fun o => [ti o.1, ti o.2]
def Arc.enc (a : Arc) : List T := [ti a.f, ti a.t, ti a.term, ti a.cost, .sl (opsT a.ops)]
def arcsT (l : List Arc) : List (List T) := l.map Arc.enc
def intsT (l : List Int) : List (List T) := l.map fun x => [ti x]
def Lattice.enc (l : Lattice) : T := .agg [ti l.states, .sl (arcsT l.arcs), .sl (intsT l.final)]
def Column.enc (c : Column) : List T := [ti c.kind, .sl (intsT c.read), ti c.delete]
def colsT (l : List Column) : List (List T) := l.map Column.enc
def Input.enc (x : Input) : T := .agg [.sl (colsT x.columns), .sl (intsT x.insert), ti x.swap]

theorem map_map_id {α β : Type} {f : α → β} {g : β → α} (h : ∀ a, g (f a) = a) (l : List α) : (l.map f).map g = l := by
  rw [List.map_map]; conv => rhs; rw [← List.map_id l]
  exact List.map_congr_left fun a _ => h a
def decInts (l : List (List T)) : List Int := l.map fun x => unti (x.getD 0 (ti 0))
def decOps (l : List (List T)) : List (Int × Int) := l.map fun x => (unti (x.getD 0 (ti 0)), unti (x.getD 1 (ti 0)))
def decArc : List T → Arc
  | [a, b, c, d, .sl o] => ⟨unti a, unti b, unti c, unti d, decOps o⟩
  | _ => default
def decArcs (l : List (List T)) : List Arc := l.map decArc
def decCol : List T → Column
  | [a, .sl b, c] => ⟨unti a, decInts b, unti c⟩
  | _ => default
def decCols (l : List (List T)) : List Column := l.map decCol
def decL : T → Lattice
  | .agg [a, .sl b, .sl c] => ⟨unti a, decArcs b, decInts c⟩
  | _ => ⟨0, [], []⟩
def decX : T → Input
  | .agg [.sl a, .sl b, c] => ⟨decCols a, decInts b, unti c⟩
  | _ => ⟨[], [], 0⟩
@[simp] theorem decInts_enc (l : List Int) : decInts (intsT l) = l := map_map_id (fun _ => rfl) l
@[simp] theorem decOps_enc (l : List (Int × Int)) : decOps (opsT l) = l := map_map_id (fun _ => rfl) l
@[simp] theorem decArc_enc (a : Arc) : decArc a.enc = a := by simp [decArc, Arc.enc, unti]
@[simp] theorem decArcs_enc (l : List Arc) : decArcs (arcsT l) = l := map_map_id decArc_enc l
@[simp] theorem decCol_enc (a : Column) : decCol a.enc = a := by simp [decCol, Column.enc, unti]
@[simp] theorem decCols_enc (l : List Column) : decCols (colsT l) = l := map_map_id decCol_enc l
@[simp] theorem decL_enc' (a : Int) (l : List Arc) (f : List Int) : decL (.agg [ti a, .sl (arcsT l), .sl (intsT f)]) = ⟨a, l, f⟩ := by simp [decL, unti]
@[simp] theorem decL_enc (n : Lattice) : decL n.enc = n := by simp [Lattice.enc]
@[simp] theorem decX_enc' (a : List Column) (b : List Int) (c : Int) : decX (.agg [.sl (colsT a), .sl (intsT b), ti c]) = ⟨a, b, c⟩ := by simp [decX, unti]
@[simp] theorem decX_enc (x : Input) : decX x.enc = x := by simp [Input.enc]

theorem rowAt_ints {l : List Int} {y : Nat} (h : y < l.length) : DM.rowAt (intsT l) y = [ti (l.getD y default)] := by simp [DM.rowAt, intsT, h]
theorem rowAt_arcs {l : List Arc} {y : Nat} (h : y < l.length) : DM.rowAt (arcsT l) y = (l.getD y default).enc := by simp [DM.rowAt, arcsT, h]
theorem rowAt_cols {l : List Column} {y : Nat} (h : y < l.length) : DM.rowAt (colsT l) y = (l.getD y default).enc := by simp [DM.rowAt, colsT, h]
theorem rowAt_ops {l : List (Int × Int)} {y : Nat} (h : y < l.length) : DM.rowAt (opsT l) y = [ti (l.getD y default).1, ti (l.getD y default).2] := by simp [DM.rowAt, opsT, h]
@[simp] theorem intsT_len (l : List Int) : (intsT l).length = l.length := by simp [intsT]
@[simp] theorem opsT_len (l : List (Int × Int)) : (opsT l).length = l.length := by simp [opsT]
@[simp] theorem arcsT_len (l : List Arc) : (arcsT l).length = l.length := by simp [arcsT]
@[simp] theorem colsT_len (l : List Column) : (colsT l).length = l.length := by simp [colsT]



abbrev keySh : List Sh := [.int .i64, .int .i64, .int .i64]
def keyOf (f t x : Int) : T := .agg [ti f, ti t, ti x]
def Arc.key (a : Arc) : T := keyOf a.f a.t a.term
/-- The entries of the builder's map. -/
def entries (al : List Arc) : List (Nat × T × DV) := al.zipIdx.map fun p => (p.2, p.1.key, .v (.agg p.1.enc))
def mapOb (al : List Arc) : Ob := .map keySh true al.length (entries al)
def bcells (x : Input) (m : Nat) : List DV := [.v (.sl (colsT x.columns)), .v (.sl (intsT x.insert)), .v (ti x.swap), .mref m]

/-- The cheapest candidates so far: one more. -/
def sameKey (a b : Arc) : Bool := decide (a.f = b.f ∧ a.t = b.t ∧ a.term = b.term)
def addL (al : List Arc) (a : Arc) : List Arc :=
  if a.cost < 1099511627776 then
    match al.findIdx? (sameKey a) with
    | none => al ++ [a]
    | some i => if a.cost < (al.getD i default).cost then al.set i a else al
  else al

/-- What a map's entry costs. -/
def costOf : DV → Int
  | .v (.agg [_, _, _, .int _ c, _]) => c
  | _ => 0
/-- Is the candidate better than what the map holds at its key? -/
def better (k : T) (c : Int) (es : List (Nat × T × DV)) : Bool :=
  decide (c < 1099511627776) && match findE k es with | none => true | some e => decide (c < costOf e.2.2)
def addE (k : T) (c : Int) (y : DV) (clk : Nat) (es : List (Nat × T × DV)) : List (Nat × T × DV) := if better k c es then setE k y clk es else es
def addC (k : T) (c : Int) (clk : Nat) (es : List (Nat × T × DV)) : Nat := if better k c es then clockE k clk es else clk

theorem key_eq (a b : Arc) : eqTB a.key b.key = sameKey a b := by
  simp [Arc.key, keyOf, eqTB, eqTBs, sameKey]
theorem entries_idx (a : Arc) (al : List Arc) : ((entries al).findIdx? fun e => eqTB a.key e.2.1) = al.findIdx? (sameKey a) := by
  have h : ∀ (l : List Arc) (i : Nat), (((l.zipIdx i).map fun p => ((p.2, p.1.key, DV.v (.agg p.1.enc)) : Nat × T × DV)).findIdx? fun e => eqTB a.key e.2.1) = l.findIdx? (sameKey a) := by
    intro l
    induction l with
    | nil => intro i; rfl
    | cons b l ih => intro i; simp only [List.zipIdx_cons, List.map_cons, List.findIdx?_cons, key_eq, ih (i + 1)]
  exact h al 0
theorem entries_get (al : List Arc) (i : Nat) : (entries al)[i]? = (al[i]?).map fun a => (i, a.key, .v (.agg a.enc)) := by
  simp [entries, List.getElem?_map, List.getElem?_zipIdx, Function.comp_def]
theorem entries_len (al : List Arc) : (entries al).length = al.length := by simp [entries]
theorem entries_v (al : List Arc) : ∀ e ∈ entries al, ∃ a : Arc, e.2.2 = .v (.agg a.enc) := by
  intro e he
  simp only [entries, List.mem_map] at he
  obtain ⟨p, _, rfl⟩ := he
  exact ⟨p.1, rfl⟩
theorem idx_bound {α : Type} {p : α → Bool} {l : List α} {i : Nat} (h : l.findIdx? p = some i) : i < l.length := by
  rw [List.findIdx?_eq_some_iff_getElem] at h
  exact h.1
theorem better_entries (a : Arc) (al : List Arc) : better a.key a.cost (entries al) = (decide (a.cost < 1099511627776) && match al.findIdx? (sameKey a) with | none => true | some i => decide (a.cost < (al.getD i default).cost)) := by
  unfold better
  rw [findE_at, entries_idx]
  cases h : al.findIdx? (sameKey a) with
  | none => rfl
  | some i =>
    have hi := idx_bound h
    simp [entries_get, hi, costOf, Arc.enc]
    rfl
theorem addE_entries (a : Arc) (al : List Arc) : addE a.key a.cost (.v (.agg a.enc)) al.length (entries al) = entries (addL al a) ∧ addC a.key a.cost al.length (entries al) = (addL al a).length := by
  unfold addE addC addL
  rw [better_entries]
  by_cases hc : a.cost < 1099511627776
  · simp only [hc, decide_true, Bool.true_and, if_true]
    cases h : al.findIdx? (sameKey a) with
    | none =>
      simp only [if_true, setE, clockE, entries_idx, h]
      refine ⟨?_, by simp⟩
      apply List.ext_getElem?
      intro j
      rw [entries_get, List.getElem?_append, List.getElem?_append, entries_len, entries_get]
      split
      · rfl
      · rename_i hj
        by_cases hj2 : j = al.length
        · subst hj2; simp
        · rw [List.getElem?_eq_none (by simp; omega), List.getElem?_eq_none (by simp; omega)]; rfl
    | some i =>
      have hi := idx_bound h
      have hkey : a.key = (al.getD i default).key := by
        rw [List.findIdx?_eq_some_iff_getElem] at h
        obtain ⟨_, h1, _⟩ := h
        simp only [sameKey, decide_eq_true_eq] at h1
        simp [Arc.key, keyOf, List.getD, hi, h1]
      simp only
      by_cases h2 : a.cost < (al.getD i default).cost
      · simp only [h2, decide_true, if_true, setE, clockE, entries_idx, h]
        refine ⟨?_, by simp⟩
        apply List.ext_getElem?
        intro j
        rw [entries_get, List.getElem?_modify, entries_get, List.getElem?_set]
        by_cases hj : i = j
        · subst hj
          simp [hi, hkey, List.getD]
        · simp [hj]
      · simp only [h2, decide_false, Bool.false_eq_true, if_false]
        exact ⟨trivial, trivial⟩
  · simp [hc]
end Go.Proofs
/- The builder of lattices: clone, deleted, swap. Conditions: none. -/
namespace Go.Proofs
open Go.DM
set_option linter.unusedSimpArgs false
set_option linter.unusedVariables false
theorem ok0 : EnvOk Tryd.prog (envOf []) := EnvOk.nil

theorem gone_over {f : Obs} {l : List (Nat × Ob)} {low r : Nat} (hf : Closed f low) (h : low ≤ r) (hl : ∀ p ∈ l, p.1 ≠ r) : gone (over l f) id r := by
  intro r' hr' e
  simp only [id] at e
  subst e
  cases ho : over l f r' with
  | none => exact hr' ho
  | some o =>
    rcases over_mem ho with h1 | ⟨_, h1⟩
    · exact hl _ h1 rfl
    · have := (hf r' o h1).1; omega

/-! deleted -/
def delCost : List Column → Int → Int
  | [], c => c
  | x :: l, c => delCost l (min (c + x.delete) 1099511627776)
def dels (n : Nat) : List (Int × Int) := List.replicate n (2, 0)
theorem delCost_snoc (l : List Column) (x : Column) (c : Int) : delCost (l ++ [x]) c = min (delCost l c + x.delete) 1099511627776 := by
  induction l generalizing c with
  | nil => rfl
  | cons y l ih => simp [delCost, ih]
theorem delCost_bound {l : List Column} (h : ∀ c ∈ l, 0 ≤ c.delete) : ∀ c, 0 ≤ c ∧ c ≤ 1099511627776 → 0 ≤ delCost l c ∧ delCost l c ≤ 1099511627776 := by
  induction l with
  | nil => intro c hc; exact hc
  | cons y l ih =>
    intro c hc
    have := h y (by simp)
    exact ih (fun z hz => h z (by simp [hz])) _ (by omega)

theorem take_colsT (l : List Column) (n : Nat) : (colsT l).take n = colsT (l.take n) := by simp [colsT, List.map_take]
theorem drop_colsT (l : List Column) (n : Nat) : (colsT l).drop n = colsT (l.drop n) := by simp [colsT, List.map_drop]

/-- Is what is deleted worth a number? -/
def delOk (cols : List Column) : Prop := cols.length ≤ 1000000 ∧ ∀ c ∈ cols, 0 ≤ c.delete ∧ c.delete ≤ 1099511627776

set_option maxHeartbeats 1000000 in
theorem t31 {f : Obs} {b m : Nat} {x : Input} {i j : Nat} {N : Nat} (hN : ∀ r, N ≤ r → f r = none) (hb : f b = some (.box (bcells x m))) (hij : i ≤ j) (hj : j ≤ x.columns.length) (hd : delOk x.columns) :
    CallsS Tryd.prog 23 [.ptr b 0, .v (ti i), .v (ti j)] f ⟨True, .v (.tup [ti (delCost ((x.columns.take j).drop i) 0), .sl (opsT (dels (j - i)))]), f⟩ := by
  have hΓ := ok0
  refine c31.okC hN (by simp) fun hcl => ?_
  have hbN : b < N := (hcl b _ hb).1
  obtain ⟨part, hpart⟩ : ∃ p, (x.columns.take j).drop i = p := ⟨_, rfl⟩
  have hpl : part.length = j - i := by rw [← hpart]; simp; omega
  have hpd : ∀ c ∈ part, 0 ≤ c.delete ∧ c.delete ≤ 1099511627776 := fun c hc => hd.2 c (by rw [← hpart] at hc; exact List.mem_of_mem_take (List.mem_of_mem_drop hc))
  have hps : ((colsT x.columns).take j).drop i = colsT part := by rw [take_colsT, drop_colsT, hpart]
  have hrows : ∀ r ∈ colsT x.columns, r.length = 3 := by intro r hr; simp only [colsT, List.mem_map] at hr; obtain ⟨c, _, rfl⟩ := hr; rfl
  have hlen := hd.1
  rw [hpart]
  clear hpart
  simp
  refine SatD.regSeq hΓ follows [0, 1, 2, 7] ?_
  simp [d31r0]
  refine SatD.regSeq hΓ follows [0, 1, 2, 8] ?_
  simp [d31r1]
  refine SatD.regSeq hΓ follows [0, 1, 2, 8, 9] ?_
  simp [d31r2]
  refine SatD.seq ?_
  refine SatD.regSeq hΓ follows [8, 9, 19, 20, 21] ?_
  simp [d31r3, hb, bcells, hij, hj, hps]
  refine ⟨hrows, ?_⟩
  refine SatD.le (Le.keepO (l1 := []) (l := [(8, .v (ti 0)), (9, .nil0), (19, .v (.sl (colsT part))), (20, .v (ti part.length)), (21, .v (ti 0))]) (nxt' := N + 200) hcl ?_ ?_ ?_ ?_ ?_) ?_
  · omega
  · simp
  · simp [overKeep]
  · simp [overOk]
  · simp
  refine SatD.le (Le.nilSlot (k := 9) 53 (sz := 2) (by omega) (by simp)) ?_
  rw [over_setO]
  refine SatD.block ?_ -- 0
  refine SatD.loop (fun y : Nat => ⟨DM.look [(8, .v (ti (delCost (part.take y) 0))), (9, .aref (N + 200) 0), (19, .v (.sl (colsT part))), (20, .v (ti part.length)), (21, .v (ti y))], over [(N + 200, .arr 0 53 2 (opsT (dels y)))] f, N + 300, N, []⟩)
    (fun y => y ≤ part.length) (fun y => part.length - y) 0 (Le.keepO hcl ?_ ?_ ?_ ?_ ?_) (by simp) (fun y hy => ?_)
  · omega
  · simp
  · simp [overKeep]
  · simp [overOk, corOb2, dels, opsT]
  · simp [delCost]
  refine SatD.regSeq hΓ follows [8, 9, 19, 20, 21, 22] ?_
  simp [d31r4]
  refine SatD.seq ?_
  have hb1 := delCost_bound (l := part.take y) (fun c hc => (hpd c (List.mem_of_mem_take hc)).1) 0 (by omega)
  refine SatD.cond rfl (fun hc => ?_) (fun hc => ?_)
  · simp at hc
    refine SatD.skip ?_
    simp
    refine SatD.seq ?_
    refine SatD.block ?_ -- 1
    refine SatD.regSeq hΓ follows [8, 9, 11, 19, 20, 21] ?_
    have hrow := rowAt_cols hc
    obtain ⟨c, hce⟩ : ∃ c, part[y] = c := ⟨_, rfl⟩
    have hcm : c ∈ part := by rw [← hce]; exact List.getElem_mem hc
    have hcd := hpd c hcm
    have htk : part.take (y + 1) = part.take y ++ [c] := by rw [List.take_add_one, List.getElem?_eq_getElem hc, hce]; rfl
    simp [d31r5, hrow, hce, hc, Column.enc]
    refine SatD.regSeq hΓ follows [8, 9, 11, 19, 20, 21] ?_
    simp [d31r6]
    rw [wrap_id (by omega)]
    refine SatD.reg hΓ follows [8, 9, 19, 20, 21] ?_
    simp [d31r7, roomOk, chunk]
    refine ⟨by have : (dels y).length = y := by simp [dels]
               omega, ?_⟩
    refine SatD.reg hΓ follows [8, 9, 19, 20, 21] ?_
    simp [d31r8]
    refine ⟨y + 1, Le.keepO hcl ?_ ?_ ?_ ?_ ?_, by omega, by omega⟩
    · omega
    · simp
    · simp [overKeep]; omega
    · simp [overOk, corOb2, dels, opsT, List.replicate_succ']
    · simp [htk, delCost_snoc, List.take_take]
      rw [wrap_id (by omega)]
  · simp at hc
    have hyl : y = part.length := by omega
    subst hyl
    refine SatD.exit ?_
    simp
    refine SatD.regSeq hΓ follows [6, 7] ?_
    simp [d31r9]
    refine SatD.le (Le.keepO (l1 := []) (l := [(6, .v (ti (delCost part 0))), (7, .v (.sl (opsT (dels part.length))))]) (nxt' := N + 1000) hcl ?_ ?_ ?_ ?_ ?_) ?_
    · omega
    · simp
    · simp [overKeep]
    · simp [overOk]
    · simp
      exact gone_over hcl (by omega) (by simp)
    refine SatD.ret ?_
    simp [d31res, hpl]
    rfl

/-! swap -/
def swapOk (x : Input) (m : Nat) : Bool :=
  decide (m + 1 < x.columns.length ∧ 0 < x.swap ∧ 0 ≤ (x.columns.getD m default).kind ∧ 0 ≤ (x.columns.getD (m + 1) default).kind)
set_option maxHeartbeats 1000000 in
theorem t50 {f : Obs} {b m : Nat} {x : Input} {i : Nat} {N : Nat} (hN : ∀ r, N ≤ r → f r = none) (hb : f b = some (.box (bcells x m))) (hi : i ≤ 1000000) (hl : x.columns.length ≤ 1000000) :
    CallsS Tryd.prog 37 [.ptr b 0, .v (ti i)] f ⟨True, .v (.bool (swapOk x i)), f⟩ := by
  have hΓ := ok0
  refine c50.okC hN (by simp) fun hcl => ?_
  simp
  refine SatD.regSeq hΓ follows [0, 1, 4] ?_
  simp [d50r0]
  refine SatD.regSeq hΓ follows [0, 1, 5] ?_
  simp [d50r1, hb, bcells]
  have hw : IntKind.i64.wrap ((i : Int) + 1) = i + 1 := wrap_id (by omega)
  refine SatD.regToS hΓ follows [(4, .v (.bool (swapOk x i)))] ?_ ?_
  · by_cases h1 : i + 1 < x.columns.length
    · have hr1 := rowAt_cols (l := x.columns) (y := i) (by omega)
      have hr2 : DM.rowAt (colsT x.columns) ((i : Int) + 1) = (x.columns.getD (i + 1) default).enc := rowAt_cols (l := x.columns) h1
      obtain ⟨c1, hc1⟩ : ∃ c, x.columns.getD i default = c := ⟨_, rfl⟩
      obtain ⟨c2, hc2⟩ : ∃ c, x.columns.getD (i + 1) default = c := ⟨_, rfl⟩
      rw [hc1] at hr1
      rw [hc2] at hr2
      have hd1 : ((i : Int) + 1 < x.columns.length) = True := by simp; omega
      have hd2 : ((i : Int) < x.columns.length) = True := by simp; omega
      have hd3 : (0 ≤ (i : Int) + 1) = True := by simp; omega
      have hd4 : i < x.columns.length := by omega
      have hsw : swapOk x i = (decide (0 < x.swap) && (decide (0 ≤ c1.kind) && decide (0 ≤ c2.kind))) := by
        unfold swapOk
        rw [hc1, hc2]
        simp [h1]
      by_cases s1 : 0 < x.swap <;> by_cases s2 : 0 ≤ c1.kind <;> by_cases s3 : 0 ≤ c2.kind <;> simp [d50r2, hb, bcells, hw, hr1, hr2, hd1, hd2, hd3, hd4, Column.enc, s1, s2, s3, hsw]
    · have hd1 : ((i : Int) + 1 < x.columns.length) = False := by simp; omega
      simp [d50r2, hb, bcells, hw, hd1]
      simp [swapOk]
      intros; omega
  refine SatD.ret ?_
  simp [d50res]
  rfl

/-! clone -/
theorem Le.emptySlot {tm : Nat → DV} {ob : Obs} {nxt low : Nat} {td : List (List T)} {P : Program} {nt : Nat} {d : DC} {Q : Exit → DSt → Prop} {k : Nat} (hk : tm k = .v (.sl []))
    (h : ∀ (p : Option Addr) (c : Nat), SatD P nt d Q ⟨updT tm (some k) (.v (.raw (.slice p 0 c))), ob, nxt, low, td⟩) : SatD P nt d Q ⟨tm, ob, nxt, low, td⟩ := by
  refine ⟨fun c hc n κ a w L g r => ?_⟩
  obtain ⟨W, base, M, w0, hat, h0⟩ := r.r.ex
  have hx := h0.tmps k
  simp only [hk, RelD, RelT] at hx
  have hx' : ∃ (p : Option Addr) (cp : Nat), a.tmps.getD k Go.undef = .slice p 0 cp := by
    rcases hx with ⟨_, p, cp, hx⟩ | ⟨b, o, cp, sz, hx, _⟩
    · exact ⟨p, cp, hx⟩
    · exact ⟨_, cp, hx⟩
  obtain ⟨p, cp, hx⟩ := hx'
  refine (h p cp).run c hc n κ a w L g ⟨⟨⟨W, base, M, w0, hat, h0.size, fun t => ?_, h0.o⟩, r.r.adv, r.r.defers, r.r.bg, r.r.fin⟩, r.fresh, r.low, r.it⟩
  simp only [updT]
  by_cases ht : t = k
  · subst ht; simp only [if_true, RelD, RelT]; exact hx
  · simp only [ht, if_false]; exact h0.tmps t

theorem t49 (l : List (Int × Int)) (hl : l.length ≤ 1000000) : CallsF Tryd.prog 36 [.sl (opsT l)] 53 2 (opsT l) := by
  have hΓ := ok0
  refine c49.okF (by simp) (initSt_sat ?_)
  simp
  have hrows : ∀ r ∈ opsT l, r.length = 2 := by intro r hr; simp only [opsT, List.mem_map] at hr; obtain ⟨c, _, rfl⟩ := hr; rfl
  refine SatD.regSeq hΓ follows [0, 2] ?_
  simp [d49r0]
  cases l with
  | nil =>
    refine Le.emptySlot (k := 0) (by simp [opsT]) fun p c => ?_
    refine SatD.seq ?_
    refine SatD.regSeq hΓ follows [0, 2, 4] ?_
    simp [d49r1]
    refine SatD.cond rfl (fun h => ?_) (fun h => ?_)
    · refine SatD.regSeq hΓ follows [2] ?_
      simp [d49r2]
      refine SatD.ret ?_
      exact .inl ⟨by simp, by simp [opsT], by omega⟩
    · refine SatD.skip ?_
      simp
      refine SatD.regSeq hΓ follows [2] ?_
      simp [d49r3, roomOk]
      refine SatD.ret ?_
      exact .inr ⟨1026, 0, by simp, by simp [opsT]⟩
  | cons o l =>
    refine SatD.seq ?_
    refine SatD.regSeq hΓ follows [0, 2, 4] ?_
    simp [d49r1]
    refine ⟨by simp [opsT], ?_⟩
    refine SatD.cond rfl (fun h => by cases h) (fun h => ?_)
    refine SatD.skip ?_
    simp
    refine SatD.regSeq hΓ follows [2] ?_
    simp [d49r3, roomOk]
    refine ⟨⟨hrows, by simp at hl ⊢; omega⟩, ?_⟩
    refine SatD.ret ?_
    exact .inr ⟨1026, 0, by simp, by simp⟩
end Go.Proofs
/- The builder of lattices: add. Conditions: none. -/
namespace Go.Proofs
open Go.DM
set_option linter.unusedSimpArgs false
set_option linter.unusedVariables false

/-- The entries hold arcs. -/
def arcsE (es : List (Nat × T × DV)) : Prop := ∀ e ∈ es, ∃ a : Arc, e.2.2 = .v (.agg a.enc)
theorem same_low {f : Obs} {N n : Nat} {l0 l1 : List (Nat × Ob)} (hcl : Closed f N) (h0 : ∀ p ∈ l0, N ≤ p.1) (h1 : ∀ p ∈ l1, N ≤ p.1) (hn : f n ≠ none) : sameAt (over l0 f) (over l1 f) n := by
  obtain ⟨o, ho⟩ := Option.ne_none_iff_exists'.1 hn
  have hlt := (hcl n o ho).1
  refine ⟨o, o, ?_, ?_, sameVer_refl o⟩
  · rw [over_out fun o' h => by have := h0 _ h; simp only at this; omega]; exact ho
  · rw [over_out fun o' h => by have := h1 _ h; simp only at this; omega]; exact ho

theorem addE_val {k : T} {c : Int} {y : DV} {clk : Nat} {es : List (Nat × T × DV)} {e : Nat × T × DV} (h : e ∈ addE k c y clk es) : e.2.2 = y ∨ ∃ e' ∈ es, e.2.2 = e'.2.2 := by
  unfold addE at h
  split at h
  · rename_i hbt
    clear hbt
    unfold setE at h
    split at h
    · rename_i i hi
      clear hi
      induction es generalizing i with
      | nil => simp at h
      | cons e0 es ih =>
        cases i with
        | zero =>
          simp only [List.modify_zero_cons, List.mem_cons] at h
          rcases h with rfl | h
          · exact .inl rfl
          · exact .inr ⟨e, by simp [h], rfl⟩
        | succ i =>
          simp only [List.modify_succ_cons, List.mem_cons] at h
          rcases h with rfl | h
          · exact .inr ⟨e, by simp, rfl⟩
          · rcases ih i h with h | ⟨e', h1, h2⟩
            · exact .inl h
            · exact .inr ⟨e', by simp [h1], h2⟩
    · rcases List.mem_append.1 h with h | h
      · exact .inr ⟨e, h, rfl⟩
      · simp only [List.mem_singleton] at h
        subst h
        exact .inl rfl
  · exact .inr ⟨e, h, rfl⟩

/-- What 'add' does. -/
def k48 : List DV → Obs → SRes
  | [.ptr b 0, .agg [.v (.int .i64 f), .v (.int .i64 t), .v (.int .i64 x), .v (.int .i64 c), d]], objs =>
    match objs b with
    | some (.box [_, _, _, .mref m]) => match objs m with
      | some (.map shs agg clk es) => ⟨shs = keySh ∧ agg = true ∧ arcsE es ∧ cellable d ∧ ∀ n ∈ names d, objs n ≠ none, .v (.tup []),
          setO objs m (.map keySh true (addC (keyOf f t x) c clk es) (addE (keyOf f t x) c (.agg [.v (ti f), .v (ti t), .v (ti x), .v (ti c), d]) clk es))⟩
      | _ => ⟨False, .undef, objs⟩
    | _ => ⟨False, .undef, objs⟩
  | _, objs => ⟨False, .undef, objs⟩

set_option maxHeartbeats 2000000 in
theorem t48 {f0 : Obs} {b m clk : Nat} {c1 c2 c3 : DV} {es : List (Nat × T × DV)} {f t x c : Int} {d : DV} {N : Nat} (hN : ∀ r, N ≤ r → f0 r = none) (hb : f0 b = some (.box [c1, c2, c3, .mref m])) (hm : f0 m = some (.map keySh true clk es)) (he : arcsE es) (hd : cellable d) (hdn : ∀ n ∈ names d, f0 n ≠ none) :
    CallsS Tryd.prog 35 [.ptr b 0, .agg [.v (ti f), .v (ti t), .v (ti x), .v (ti c), d]] f0 ⟨True, .v (.tup []), setO f0 m (.map keySh true (addC (keyOf f t x) c clk es) (addE (keyOf f t x) c (.agg [.v (ti f), .v (ti t), .v (ti x), .v (ti c), d]) clk es))⟩ := by
  have hΓ := ok0
  refine c48.okC hN (by simp) fun hcl => ?_
  have hbN : b < N := (hcl b _ hb).1
  have hmN : m < N := (hcl m _ hm).1
  have hbm : b ≠ m := fun e => by rw [e, hm] at hb; cases hb
  have nb : ∀ k, b ≠ N + k := fun k => by omega
  have nm : ∀ k, m ≠ N + k := fun k => by omega
  simp
  refine SatD.regSeq hΓ follows [0, 3] ?_
  simp [d48r0, hd]
  refine SatD.regSeq hΓ follows [0, 3, 4] ?_
  simp [d48r1]
  obtain ⟨k, hk⟩ : ∃ k, keyOf f t x = k := ⟨_, rfl⟩
  have hk2 : T.agg [ti f, ti t, ti x] = k := hk
  rw [hk]
  refine SatD.le (Le.keepO (l1 := [(N + 49, .box [.v (ti f), .v (ti t), .v (ti x)]), (N + 4, .box [.v (ti f), .v (ti t), .v (ti x), .v (ti c), d])]) (l := [(0, .ptr b 0), (3, .ptr (N + 4) 0), (4, .ptr (N + 49) 0)]) (nxt' := N + 100) hcl ?_ ?_ ?_ ?_ ?_) ?_
  · omega
  · simp
  · simp [overKeep]
  · refine ⟨⟨.box [.v (ti f), .v (ti t), .v (ti x)], by simp [Nat.add_assoc], .inl (by simp), by omega⟩, ⟨.box [.v (ti f), .v (ti t), .v (ti x), .v (ti c), d], by simp [Nat.add_assoc], .inr ⟨rfl, fun n hn => ?_⟩, by omega⟩, trivial⟩
    refine same_low hcl ?_ ?_ (hdn n (by simpa [obNames, namesL, names] using hn))
    · simp; omega
    · simp
  · simp [hb, nb, Nat.add_assoc]
  have hko : keyOk keySh true k := by rw [← hk]; simp [keyOf]
  have H : ∀ (q1 q2 q3 q5 : DV) (oc : Int) (fnd : Bool), fnd = (findE k es).isSome → (∀ e, findE k es = some e → oc = costOf e.2.2) →
      SatD Tryd.prog 43 ((DC.region false d48r3).seq (DC.cond (Opd.tmp 36) (DC.region true d48r4) DC.skip))
        (finS d48res ⟨True, .v (.tup []), setO f0 m (.map keySh true (addC k c clk es) (addE k c (.agg [.v (ti f), .v (ti t), .v (ti x), .v (ti c), d]) clk es))⟩)
        ⟨DM.look [(0, .ptr b 0), (3, .ptr (N + 4) 0), (4, .ptr (N + 49) 0), (5, .ptr (N + 106) 0), (6, .v (.bool fnd))],
          over [(N + 106, .box [q1, q2, q3, .v (ti oc), q5]), (N + 106, .box [.v (ti 0), .v (ti 0), .v (ti 0), .v (ti 0), .nil0]), (N + 49, .box [.v (ti f), .v (ti t), .v (ti x)]), (N + 4, .box [.v (ti f), .v (ti t), .v (ti x), .v (ti c), d])] f0, N + 144, N, []⟩ := by
    intro q1 q2 q3 q5 oc fnd hfnd hoc
    have hbet : better k c es = (decide (c < 1099511627776) && (!fnd || decide (c < oc))) := by
      unfold better
      cases hf : findE k es with
      | none => simp [hf] at hfnd; simp [hfnd]
      | some e => simp [hf] at hfnd; simp [hfnd, hoc e hf]
    obtain ⟨y, hy⟩ : ∃ y, DV.agg [.v (ti f), .v (ti t), .v (ti x), .v (ti c), d] = y := ⟨_, rfl⟩
    have hyn : ∀ n ∈ names y, f0 n ≠ none := by
      intro n hn
      refine hdn n ?_
      rw [← hy] at hn
      simpa [names, namesL] using hn
    have hes : ∀ e ∈ es, names e.2.2 = [] := fun e he' => by obtain ⟨a, ha⟩ := he e he'; rw [ha]; rfl
    rw [hy]
    refine SatD.to ⟨DM.look [], over [(m, .map keySh true (addC k c clk es) (addE k c y clk es))] f0, N + 1000, N, []⟩ ?_ (by simp [d48res]; rfl)
    refine SatD.regToS hΓ follows [(0, .ptr b 0), (3, .ptr (N + 4) 0), (4, .ptr (N + 49) 0), (36, .v (.bool (better k c es)))] ?_ ?_
    · by_cases s1 : c < 1099511627776 <;> cases fnd <;> by_cases s2 : c < oc <;> simp [d48r3, Nat.add_assoc, s1, s2, hbet]
    refine SatD.cond rfl (fun h => ?_) (fun h => ?_)
    · refine SatD.reg hΓ follows [] ?_
      simp [-keyOk, d48r4, Nat.add_assoc, nb, nm, hb, hm, hk2, hko]
      refine Le.keepO (l := []) hcl ?_ ?_ ?_ ?_ ?_
      · omega
      · simp; omega
      · simp [overKeep]; omega
      · refine ⟨⟨.map keySh true (addC k c clk es) (addE k c y clk es), by simp [addC, addE, h, hy], .inr ⟨rfl, fun n hn => ?_⟩, fun _ => sameVer_refl _⟩, trivial⟩
        · simp only [obNames, List.mem_flatMap] at hn
          obtain ⟨e, he', hn⟩ := hn
          rcases addE_val he' with h' | ⟨e', h', h''⟩
          · rw [h'] at hn
            obtain ⟨o, ho⟩ := Option.ne_none_iff_exists'.1 (hyn n hn)
            have hlt := (hcl n o ho).1
            by_cases hnm : n = m
            · subst hnm; exact ⟨.map keySh true (addC k c clk es) (addE k c y clk es), .map keySh true (addC k c clk es) (addE k c y clk es), by simp [addC, addE, h, hy], by simp, sameVer_refl _⟩
            · refine ⟨o, o, ?_, ?_, sameVer_refl o⟩
              · simp [hnm, show n ≠ N + 106 by omega, show n ≠ N + 49 by omega, show n ≠ N + 4 by omega, ho]
              · simp [hnm, ho]
          · rw [h'', hes e' h'] at hn
            cases hn
      · simp
    · refine SatD.skip ⟨rfl, Le.keepO (l := []) hcl ?_ ?_ ?_ ?_ ?_⟩
      · omega
      · simp; omega
      · simp [overKeep]; omega
      · refine ⟨⟨.map keySh true clk es, by simp [nm, hm], .inr ⟨by simp [addC, addE, h], fun n hn => ?_⟩, fun _ => by simp [sameVer]⟩, trivial⟩
        · simp only [obNames, List.mem_flatMap] at hn
          obtain ⟨e, he', hn⟩ := hn
          rw [hes e he'] at hn
          cases hn
      · simp
  refine SatD.regSeq hΓ follows [0, 3, 4, 5, 6] ?_
  cases hf : findE k es with
  | none =>
    simp [-keyOk, d48r2, Nat.add_assoc, nb, nm, hb, hm, hk2, hko, hf]
    exact H _ _ _ _ 0 false (by simp [hf]) (by simp [hf])
  | some e =>
    obtain ⟨a, ha⟩ := he e (List.mem_of_find?_eq_some hf)
    simp [-keyOk, d48r2, Nat.add_assoc, nb, nm, hb, hm, hk2, hko, hf, ha, Arc.enc]
    exact H _ _ _ _ a.cost true (by simp [hf]) (by intro e' he'; rw [hf] at he'; cases he'; simp [ha, Arc.enc, costOf])
end Go.Proofs
/- The builder of lattices: reads. Conditions: none. -/
namespace Go.Proofs
open Go.DM
set_option linter.unusedSimpArgs false
set_option linter.unusedVariables false

def pre49 (ts : List T) : Prop := ∃ l : List (Int × Int), ts = [.sl (opsT l)] ∧ l.length ≤ 1000000
def fn49 : List T → List (List T)
  | [.sl rows] => rows
  | _ => []
abbrev Γ4 : Env := envOf [(35, specS k48), (36, specF pre49 fn49 53 2)]
theorem ok4 : EnvOk Tryd.prog Γ4 := by
  refine EnvOk.consS (EnvOk.consF EnvOk.nil ?_) ?_
  · rintro ts ⟨l, rfl, h⟩
    exact t49 l h
  · intro args objs h
    unfold k48 at h ⊢
    split at h
    · rename_i b f t x c d objs'
      split at h
      · rename_i c1 c2 c3 m hb
        split at h
        · rename_i shs agg clk es hm
          obtain ⟨rfl, rfl, he, hd, hdn⟩ := h
          refine ⟨fun N hN => ?_, fun r hr => ?_⟩
          · exact CallsS.of (t48 hN hb hm he hd hdn) (by simp [hb, hm]) (by simp [hb, hm])
          · simp only [hb, hm]
            exact setO_none hm hr
        · exact h.elim
      · exact h.elim
    · exact h.elim

theorem corEs_addE {a b : Obs} {k : T} {c : Int} {y y' : DV} {clk : Nat} {es : List (Nat × T × DV)} (hy : corD a b id y y') (he : arcsE es) : corEs a b id (addE k c y clk es) (addE k c y' clk es) := by
  have self : ∀ {l : List (Nat × T × DV)}, arcsE l → corEs a b id l l := fun {l} hl => corEs_self fun e h => by obtain ⟨x, hx⟩ := hl e h; rw [hx]; simp
  unfold addE
  split
  · rename_i hbt
    clear hbt
    unfold setE
    split
    · rename_i i hi
      clear hi
      induction es generalizing i with
      | nil => simp [corEs]
      | cons e es ih =>
        cases i with
        | zero => simp only [List.modify_zero_cons, corEs]; exact ⟨trivial, trivial, hy, self fun e' h => he e' (by simp [h])⟩
        | succ i =>
          simp only [List.modify_succ_cons, corEs]
          obtain ⟨x, hx⟩ := he e (by simp)
          exact ⟨trivial, trivial, by rw [hx]; simp, ih (fun e' h => he e' (by simp [h])) i⟩
    · rename_i hn
      clear hn
      induction es with
      | nil => simp only [List.nil_append, corEs]; exact ⟨trivial, trivial, hy, trivial⟩
      | cons e es ih =>
        simp only [List.cons_append, corEs]
        obtain ⟨x, hx⟩ := he e (by simp)
        exact ⟨trivial, trivial, by rw [hx]; simp, ih fun e' h => he e' (by simp [h])⟩
  · exact self he
theorem arcs_entries (al : List Arc) : arcsE (entries al) := entries_v al
theorem corOb_add {a b : Obs} {al : List Arc} {c : Arc} {d : DV} (hd : corD a b id d (.v (.sl (opsT c.ops)))) :
    corOb2 a b (.map keySh true (addC c.key c.cost al.length (entries al)) (addE c.key c.cost (.agg [.v (ti c.f), .v (ti c.t), .v (ti c.term), .v (ti c.cost), d]) al.length (entries al))) (mapOb (addL al c)) := by
  obtain ⟨h1, h2⟩ := addE_entries c al
  refine .inl ?_
  unfold mapOb
  rw [← h1, ← h2]
  simp only [corOb]
  refine ⟨trivial, trivial, trivial, corEs_addE ?_ (arcs_entries al)⟩
  simp [Arc.enc, hd]

theorem opsT_snoc (l : List (Int × Int)) (a b : Int) : opsT l ++ [[ti a, ti b]] = opsT (l ++ [(a, b)]) := by simp [opsT]
/-- The map after a candidate whose operations lie in an array of this call. -/
theorem le_add {f0 : Obs} {N m r r2 nxt nxt' v : Nat} {tm : Nat → DV} {l : List (Nat × DV)} {o2 : Ob} {al : List Arc} (c : Arc) {rows : List (List T)} (hcl : Closed f0 N) (hm : m < N) (hr : N ≤ r) (hr2 : N ≤ r2) (hn : N ≤ nxt') (hrows : rows = opsT c.ops)
    (htm : corTms (over [(m, .map keySh true (addC c.key c.cost al.length (entries al)) (addE c.key c.cost (.agg [.v (ti c.f), .v (ti c.t), .v (ti c.term), .v (ti c.cost), .aref r v]) al.length (entries al))), (r, .arr v 53 2 rows), (r2, o2), (m, .map keySh true al.length (entries al))] f0) (over [(m, mapOb (addL al c))] f0) id tm l) :
    Le ⟨tm, setO (over [(r, .arr v 53 2 rows), (r2, o2), (m, .map keySh true al.length (entries al))] f0) m (.map keySh true (addC c.key c.cost al.length (entries al)) (addE c.key c.cost (.agg [.v (ti c.f), .v (ti c.t), .v (ti c.term), .v (ti c.cost), .aref r v]) al.length (entries al))), nxt, N, []⟩
      ⟨DM.look l, over [(m, mapOb (addL al c))] f0, nxt', N, []⟩ := by
  subst hrows
  rw [over_setO]
  refine Le.keepO hcl hn ?_ ?_ ?_ htm
  · simp; omega
  · simp [overKeep]; omega
  · refine ⟨⟨_, by simp, corOb_add (d := .aref r v) ?_, fun _ => by simp [sameVer, mapOb]⟩, trivial⟩
    simp [show r ≠ m by omega]
    exact gone_over hcl hr (by simp; omega)

theorem names_map (al : List Arc) : obNames (mapOb al) = [] := by
  simp only [mapOb, obNames, List.flatMap_eq_nil_iff]
  intro e he
  obtain ⟨a, ha⟩ := arcs_entries al e he
  rw [ha]; rfl
theorem map_self {a b : Obs} (al : List Arc) : corOb2 a b (mapOb al) (mapOb al) := .inr ⟨rfl, fun n hn => by rw [names_map] at hn; cases hn⟩

/-! reads -/
def addAll (al : List Arc) (cs : List Arc) : List Arc := cs.foldl addL al
theorem addAll_append (al cs ds : List Arc) : addAll al (cs ++ ds) = addAll (addAll al cs) ds := by simp [addAll]
def readN (read : List Int) (i m cost : Int) (ops : List (Int × Int)) (n : Nat) : List Arc :=
  (List.range n).flatMap fun t => if 0 ≤ read.getD t 0 then [⟨2 * i, 2 * m + 2, t, cost + read.getD t 0, ops ++ [(1, (t : Int))]⟩] else []
theorem readN_succ (read : List Int) (i m cost : Int) (ops : List (Int × Int)) (n : Nat) : readN read i m cost ops (n + 1) = readN read i m cost ops n ++ (if 0 ≤ read.getD n 0 then [⟨2 * i, 2 * m + 2, n, cost + read.getD n 0, ops ++ [(1, (n : Int))]⟩] else []) := by
  simp [readN, List.range_succ]

/-- The prices fit. -/
def colOk (c : Column) : Prop := c.read.length ≤ 1000000 ∧ ∀ p ∈ c.read, p ≤ 1099511627776

set_option maxHeartbeats 2000000 in
theorem t47 {f0 : Obs} {b m : Nat} {x : Input} {al : List Arc} {i j : Nat} {cost : Int} {ops : List (Int × Int)} {N : Nat} (hN : ∀ r, N ≤ r → f0 r = none) (hb : f0 b = some (.box (bcells x m))) (hm : f0 m = some (mapOb al))
    (hi : i ≤ 1000000) (hj : j < x.columns.length) (hl : x.columns.length ≤ 1000000) (hc : colOk (x.columns.getD j default)) (hcost : 0 ≤ cost ∧ cost ≤ 1099511627776) (hops : ops.length ≤ 1000000) :
    CallsS Tryd.prog 34 [.ptr b 0, .v (ti i), .v (ti j), .v (ti cost), .v (.sl (opsT ops))] f0 ⟨True, .v (.tup []), setO f0 m (mapOb (addAll al (readN (x.columns.getD j default).read i j cost ops (x.columns.getD j default).read.length)))⟩ := by
  have hΓ := ok4
  refine c47.okC hN (by simp) fun hcl => ?_
  have hbN : b < N := (hcl b _ hb).1
  have hmN : m < N := (hcl m _ hm).1
  have hbm : b ≠ m := fun e => by rw [e, hm] at hb; cases hb
  have nb : ∀ k, b ≠ N + k := fun k => by omega
  have nm : ∀ k, m ≠ N + k := fun k => by omega
  have hrow := rowAt_cols hj
  obtain ⟨col, hcol⟩ : ∃ c, x.columns.getD j default = c := ⟨_, rfl⟩
  rw [hcol] at hrow hc ⊢
  obtain ⟨kd, read, del⟩ := col
  simp only at hc ⊢
  obtain ⟨hc1, hc2⟩ := hc
  simp only at hc1 hc2
  have hrows : ∀ r ∈ opsT ops, r.length = 2 := by intro r hr; simp only [opsT, List.mem_map] at hr; obtain ⟨c, _, rfl⟩ := hr; rfl
  simp
  refine SatD.regSeq hΓ follows [0, 1, 2, 3, 4, 20, 21, 22] ?_
  simp [d47r0, hb, bcells, hj, hrow, Column.enc]
  refine SatD.to ⟨DM.look [], over [(m, mapOb (addAll al (readN read i j cost ops read.length)))] f0, N + 1000, N, []⟩ ?_ (by simp [d47res]; rfl)
  refine SatD.block ?_
  refine SatD.loop (fun y : Nat => ⟨DM.look [(0, .ptr b 0), (1, .v (ti i)), (2, .v (ti j)), (3, .v (ti cost)), (4, .v (.sl (opsT ops))), (20, .v (.sl (intsT read))), (21, .v (ti read.length)), (22, .v (ti y))], over [(m, mapOb (addAll al (readN read i j cost ops y)))] f0, N + 200, N, []⟩)
    (fun y => y ≤ read.length) (fun y => read.length - y) 0 (Le.keepO hcl ?_ ?_ ?_ ?_ ?_) (by simp) (fun y hy => ?_)
  · omega
  · simp; omega
  · simp [overKeep]
  · exact ⟨⟨mapOb al, by simp [hm], by simpa [readN, addAll] using map_self al, fun _ => trivial⟩, trivial⟩
  · simp [hb, hbm]
  refine SatD.regSeq hΓ follows [0, 1, 2, 3, 4, 20, 21, 22, 23] ?_
  simp [d47r1]
  refine SatD.seq ?_
  refine SatD.cond rfl (fun hcc => ?_) (fun hcc => ?_)
  · simp at hcc
    refine SatD.skip ?_
    simp
    refine SatD.seq ?_
    refine SatD.block ?_
    have hr2 := rowAt_ints hcc
    obtain ⟨p, hp⟩ : ∃ p, read.getD y default = p := ⟨_, rfl⟩
    have hp0 : read.getD y 0 = p := hp
    have hpm : p ≤ 1099511627776 := hc2 p (by rw [← hp]; simp [List.getD, hcc])
    rw [hp] at hr2
    refine SatD.regSeq hΓ follows [0, 1, 2, 3, 4, 10, 11, 20, 21, 22] ?_
    simp [d47r2, hr2, hcc]
    refine SatD.regSeq hΓ follows [0, 1, 2, 3, 4, 10, 11, 20, 21, 22, 28] ?_
    simp [d47r3]
    have hsucc := readN_succ read i j cost ops y
    rw [hp0] at hsucc
    obtain ⟨aly, haly⟩ : ∃ l, addAll al (readN read i j cost ops y) = l := ⟨_, rfl⟩
    rw [haly]
    refine SatD.to ⟨DM.look [(0, .ptr b 0), (1, .v (ti i)), (2, .v (ti j)), (3, .v (ti cost)), (4, .v (.sl (opsT ops))), (20, .v (.sl (intsT read))), (21, .v (ti read.length)), (22, .v (ti y))], over [(m, mapOb (addAll al (readN read i j cost ops (y + 1))))] f0, N + 1000, N, []⟩ ?_ ?_
    · refine SatD.cond rfl (fun hd => ?_) (fun hd => ?_)
      · simp at hd
        refine SatD.regA hΓ follows (rs := d47r4S) (.inr ⟨_, rfl⟩) (by kernel_rfl) [0, 1, 2, 3, 4, 20, 21, 22] ?_
        have w1 : IntKind.i64.wrap (2 * (i : Int)) = 2 * i := wrap_id (by omega)
        have w2 : IntKind.i64.wrap (2 * (j : Int)) = 2 * j := wrap_id (by omega)
        have w3 : IntKind.i64.wrap (2 * (j : Int) + 2) = 2 * j + 2 := wrap_id (by omega)
        have w4 : IntKind.i64.wrap (cost + p) = cost + p := wrap_id (by omega)
        simp [d47r4S, w1, w2, w3, w4, fn49, pre49, chunk, roomOk, k48, hb, bcells, hbm, mapOb, arcs_entries, Nat.add_assoc, nb, nm]
        refine ⟨⟨ops, rfl, hops⟩, by omega, fun n hn => ?_, ?_⟩
        · simp only [names, List.mem_singleton] at hn
          subst hn
          simp
        · have e : addAll al (readN read i j cost ops (y + 1)) = addL aly ⟨2 * i, 2 * j + 2, y, cost + p, ops ++ [(1, (y : Int))]⟩ := by
            rw [hsucc, if_pos hd, addAll_append, haly]; rfl
          rw [e]
          refine le_add ⟨2 * i, 2 * j + 2, y, cost + p, ops ++ [(1, (y : Int))]⟩ hcl hmN ?_ ?_ ?_ (opsT_snoc _ _ _) ?_
          · omega
          · omega
          · omega
          · simp [hb, nb, hbm]
      · simp at hd
        have e : addAll al (readN read i j cost ops (y + 1)) = aly := by
          rw [hsucc, if_neg (by omega), List.append_nil, haly]
        rw [e]
        refine SatD.skip ⟨rfl, Le.keepO hcl ?_ ?_ ?_ ?_ ?_⟩
        · omega
        · simp; omega
        · simp [overKeep]
        · exact ⟨⟨mapOb aly, by simp [mapOb], map_self _, fun _ => sameVer_refl _⟩, trivial⟩
        · simp [hb, hbm]
    · refine SatD.reg hΓ follows [0, 1, 2, 3, 4, 20, 21, 22] ?_
      simp [d47r5]
      rw [wrap_id (by omega)]
      refine ⟨y + 1, Le.keepO hcl ?_ ?_ ?_ ?_ ?_, by omega, by omega⟩
      · omega
      · simp; omega
      · simp [overKeep]
      · exact ⟨⟨_, by simp, map_self _, fun _ => sameVer_refl _⟩, trivial⟩
      · simp [hb, hbm]
  · simp at hcc
    have : y = read.length := by omega
    subst this
    refine SatD.exit ?_
    refine ⟨rfl, ?_⟩
    refine Le.keepO (l := []) hcl ?_ ?_ ?_ ?_ ?_
    · omega
    · simp; omega
    · simp [overKeep]
    · exact ⟨⟨_, by simp, map_self _, fun _ => sameVer_refl _⟩, trivial⟩
    · simp
end Go.Proofs
