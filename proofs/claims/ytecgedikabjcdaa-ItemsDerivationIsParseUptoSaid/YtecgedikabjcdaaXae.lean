/- The D-machine, part V: plain laws of stable sorting (no program in sight). Conditions: none. -/
import Derived.Test.YtecgedikabjcdaaXad
import Derived.Test.YtecgedikabjcdaaXac
import Derived.KernelRfl
namespace Go.Proofs
open Go.DM
set_option linter.unusedSimpArgs false
set_option linter.unusedVariables false

def edgeOf (nt st : Int) (r : Rule) (f t k : Int) (cost arg : Int) (tails : List Int) : Edge := ⟨idxI nt st r.head f t, tails, min cost Inf, k, arg⟩
def caps46 (nt st : Int) (r : Rule) (f t k : Int) : List T := [.box [ti nt, ti st], .box r.enc, .box [ti f], .box [ti t], .box [ti k]]
def okR (r : Rule) : Prop := 0 ≤ r.head ∧ r.head ≤ 1000 ∧ 0 ≤ r.price ∧ r.price ≤ 1000
def okF (f t : Int) : Prop := 0 ≤ f ∧ f ≤ t ∧ t ≤ 1000

theorem t46 (nt st : Int) (r : Rule) (f t k cost arg : Int) (tails : List Int) (h : sm nt st) (hr : okR r) (hf : okF f t) :
    CallsOk Try.prog 46 ([ti cost, ti arg, .sl (intsT tails)] ++ caps46 nt st r f t k) (.agg (edgeOf nt st r f t k cost arg tails).enc) := by
  have hΓ := ok1
  refine c46.ok (by simp [caps46]) (initSt_sat ?_)
  simp [caps46, Rule.enc]
  refine SatD.regSeq hΓ follows [0, 1, 2, 3, 4, 5, 6, 7, 11] ?_
  simp [d46r0]
  refine SatD.regSeq hΓ follows [11] ?_
  simp [d46r1, Γ1, spec37, fn37, pre37]
  refine ⟨⟨h, ?_⟩, ?_⟩
  · unfold okR at hr; unfold okF at hf; omega
  refine SatD.ret ?_
  simp [d46res, edgeOf, Edge.enc]

theorem t36 (a b : Edge) (ha : 0 ≤ a.head ∧ a.head ≤ 1000000000000) (hb : 0 ≤ b.head ∧ b.head ≤ 1000000000000) : CallsOk Try.prog 36 [.agg a.enc, .agg b.enc] (ti (a.head - b.head)) := by
  have hΓ : EnvOk Try.prog (envOf []) := EnvOk.nil
  refine c36.ok (by simp) (initSt_sat ?_)
  simp [Edge.enc]
  refine SatD.regSeq hΓ follows [2, 3, 4] ?_
  simp [d36r0]
  refine SatD.regSeq hΓ follows [4] ?_
  simp [d36r1]
  refine SatD.ret ?_
  simp [d36res]
  rw [wrap_id (by omega)]

def caps47 (nt st : Int) (r : Rule) (arcs : List Arc) (fin : List Int) (f t k : Int) : List T := [.box r.enc, .box [ti f], .box [ti t], .box [.fn (.func 46) (caps46 nt st r f t k)], .box [ti st, .sl (arcsT arcs), .sl (intsT fin)], .box [ti nt, ti st]]
theorem t34 (n : Normal) (l : Lattice) (k : Nat) (f t : Int) (hk : k < n.rules.length) :
    CallsOk Try.prog 34 [n.enc, l.enc, ti k, ti f, ti t] (.fn (.func 47) (caps47 n.nonterms l.states (n.rules.getD k default) l.arcs l.final f t k)) := by
  have hΓ := ok1
  refine c34.ok (by simp) (initSt_sat ?_)
  simp [Normal.enc, Lattice.enc]
  refine SatD.regSeq hΓ follows [5, 6, 7, 8, 9, 10] ?_
  simp [d34r0]
  refine SatD.regSeq hΓ follows [5, 6, 7, 8, 9, 11] ?_
  simp [d34r1, Γ1, spec32, fn32, pre32]
  refine ⟨⟨⟨n, rfl⟩, ⟨l, rfl⟩⟩, ?_⟩
  refine SatD.regSeq hΓ follows [6, 7, 8, 9, 11, 12] ?_
  have hrow := rowAt_rules hk
  simp [d34r2, hrow, hk, Rule.enc]
  generalize n.rules[k] = r
  refine SatD.le (Le.keep (o := []) (l := [(6, .v (.box [ti l.states, .sl (arcsT l.arcs), .sl (intsT l.final)])), (7, .v (.box [ti k])), (8, .v (.box [ti f])), (9, .v (.box [ti t])), (11, .v (.box [ti n.nonterms, ti l.states])), (12, .v (.box r.enc))]) (nxt' := 1100) ?_ ?_ ?_ ?_) ?_
  · simp
  · simp
  · simp
  · simp [Rule.enc]
  refine SatD.regSeq hΓ follows [6, 8, 9, 11, 12, 13] ?_
  simp [d34r3]
  refine SatD.le (Le.keep (o := []) (l := [(6, .v (.box [ti l.states, .sl (arcsT l.arcs), .sl (intsT l.final)])), (8, .v (.box [ti f])), (9, .v (.box [ti t])), (11, .v (.box [ti n.nonterms, ti l.states])), (12, .v (.box r.enc)), (13, .v (.box [.fn (.func 46) (caps46 n.nonterms l.states r f t k)]))]) (nxt' := 1200) ?_ ?_ ?_ ?_) ?_
  · simp
  · simp
  · simp
  · simp [caps46]
  refine SatD.regSeq hΓ follows [10] ?_
  simp [d34r4]
  refine SatD.ret ?_
  simp [d34res, caps47, caps46]
end Go.Proofs
namespace Go.Proofs
open Go.DM
set_option linter.unusedSimpArgs false
set_option linter.unusedVariables false

def pre46 (ts : List T) : Prop := ∃ (nt st : Int) (r : Rule) (f t k cost arg : Int) (tails : List Int), ts = [ti cost, ti arg, .sl (intsT tails), .box [ti nt, ti st], .box r.enc, .box [ti f], .box [ti t], .box [ti k]] ∧ sm nt st ∧ okR r ∧ okF f t
def fn46 : List T → T
  | [.int _ cost, .int _ arg, .sl tails, .box [.int _ nt, .int _ st], .box r, .box [.int _ f], .box [.int _ t], .box [.int _ k]] =>
    .agg (edgeOf nt st (decRule r) f t k cost arg (decInts tails)).enc
  | _ => .bool false
@[simp] theorem decRule_enc (r : Rule) : decRule r.enc = r := rfl
@[simp] theorem decRule_enc' (a b c d e f : Int) : decRule [ti a, ti b, ti c, ti d, ti e, ti f] = ⟨a, b, c, d, e, f⟩ := rfl
def Γ6 : Env := envOf [(37, spec37), (46, specP pre46 fn46 false)]
theorem ok6 : EnvOk Try.prog Γ6 := by
  refine EnvOk.cons (EnvOk.cons EnvOk.nil ?_) ?_
  · rintro ts ⟨nt, st, r, f, t, k, cost, arg, tails, rfl, h1, h2, h3⟩
    exact ⟨by simpa [fn46, caps46] using t46 nt st r f t k cost arg tails h1 h2 h3, by intro h; cases h⟩
  · intro ts h
    match ts, h with
    | [.agg [.int .i64 nt, .int .i64 st], .int .i64 h, .int .i64 f, .int .i64 t], h1 => exact ⟨t37 EnvOk.nil nt st h f t h1.1 h1.2, fun _ => rfl⟩

/-- The hyperedges that a rule has for a span. -/
def inst (nt st : Int) (r : Rule) (arcs : List Arc) (f t k : Int) : List Edge :=
  if r.kind = 1 then (if f = t then [edgeOf nt st r f t k r.price f []] else [])
  else if r.kind = 2 then (List.range arcs.length).flatMap fun i => if (arcs.getD i default).f = f ∧ (arcs.getD i default).t = t ∧ (arcs.getD i default).term = r.a then [edgeOf nt st r f t k (r.price + (arcs.getD i default).cost) i []] else []
  else if r.kind = 3 then [edgeOf nt st r f t k r.price f [idxI nt st r.a f t]]
  else if r.kind = 4 then (List.range (t - f + 1).toNat).map fun j : Nat => edgeOf nt st r f t k r.price (f + j) [idxI nt st r.a f (f + j), idxI nt st r.b (f + j) t]
  else []
def yieldsOf (l : List Edge) : List (List T) := l.map fun e => [.agg e.enc]
def okR2 (r : Rule) : Prop := okR r ∧ (r.kind = 3 → 0 ≤ r.a ∧ r.a ≤ 1000) ∧ (r.kind = 4 → 0 ≤ r.a ∧ r.a ≤ 1000 ∧ 0 ≤ r.b ∧ r.b ≤ 1000)
def okArcs (l : List Arc) : Prop := l.length ≤ 140737488355328 ∧ ∀ a ∈ l, 0 ≤ a.cost ∧ a.cost ≤ Inf

@[simp] theorem obsNil : (obs [] = fun _ => none) = True := by simp; funext; rfl
@[simp] theorem decInts_nil : decInts [] = [] := rfl
@[simp] theorem decInts_one (a : Int) : decInts [[ti a]] = [a] := rfl
@[simp] theorem decInts_two (a b : Int) : decInts [[ti a], [ti b]] = [a, b] := rfl

/-- What an arc gives. -/
def termAt (nt st : Int) (r : Rule) (arcs : List Arc) (f t k : Int) (i : Nat) : List Edge :=
  if (arcs.getD i default).f = f ∧ (arcs.getD i default).t = t ∧ (arcs.getD i default).term = r.a then [edgeOf nt st r f t k (r.price + (arcs.getD i default).cost) i []] else []
def binAt (nt st : Int) (r : Rule) (f t k : Int) (j : Nat) : Edge := edgeOf nt st r f t k r.price (f + j) [idxI nt st r.a f (f + j), idxI nt st r.b (f + j) t]
theorem range_drop {n y : Nat} (h : y < n) : (List.range n).drop y = y :: (List.range n).drop (y + 1) := by
  rw [List.drop_eq_getElem_cons (by simpa using h)]
  simp

@[simp] theorem drop_range_self (n : Nat) : (List.range n).drop n = [] := List.drop_eq_nil_of_le (by simp)
@[simp] theorem chunk_one (a : T) : chunk 1 1 [a] = [[a]] := rfl
@[simp] theorem chunk_two (a b : T) : chunk 1 2 [a, b] = [[a], [b]] := rfl

set_option maxRecDepth 20000 in
theorem t47 (nt st : Int) (r : Rule) (arcs : List Arc) (fin : List Int) (f t k : Int) (h : sm nt st) (hr : okR2 r) (hf : okF f t) (ha : okArcs arcs) :
    ItOk Try.prog 47 (caps47 nt st r arcs fin f t k) (yieldsOf (inst nt st r arcs f t k)) := by
  have hΓ := ok6
  obtain ⟨tot, htot⟩ : ∃ tot, yieldsOf (inst nt st r arcs f t k) = tot := ⟨_, rfl⟩
  rw [htot]
  refine c47.okI (by simp [caps47]) (initI_sat ?_)
  simp [caps47, Rule.enc, caps46]
  refine SatD.regSeq hΓ follows [0, 1, 2, 3, 4, 5, 6, 12] ?_
  simp [d47r0]
  refine SatD.block ?_ -- 0
  refine SatD.regSeq hΓ follows [0, 1, 2, 3, 4, 5, 6, 12, 13] ?_
  simp [d47r1]
  obtain ⟨hr1, hr3, hr4⟩ := hr
  have hcall : ∀ (cost arg : Int) (tails : List (List T)), (∃ l, tails = intsT l) → pre46 [ti cost, ti arg, .sl tails, .box [ti nt, ti st], .box [ti r.kind, ti r.head, ti r.a, ti r.b, ti r.price, ti r.origin], .box [ti f], .box [ti t], .box [ti k]] := by
    rintro cost arg _ ⟨l, rfl⟩
    exact ⟨nt, st, r, f, t, k, cost, arg, l, rfl, h, hr1, hf⟩
  have hcall37 : ∀ a f' t', 0 ≤ a ∧ a ≤ 1000 → 0 ≤ f' ∧ f' ≤ 1000 → 0 ≤ t' ∧ t' ≤ 1000 → pre37 [.agg [ti nt, ti st], ti a, ti f', ti t'] := fun a f' t' h1 h2 h3 => ⟨h, h1.1, h1.2, h2.1, h2.2, h3.1, h3.2⟩
  obtain ⟨hf1, hf2, hf3⟩ := hf
  refine SatD.cond rfl (fun e1 => ?_) (fun e1 => ?_)
  · simp only [decide_eq_true_eq] at e1
    refine SatD.regSeq hΓ follows [0, 1, 2, 4, 17] ?_
    simp [d47r2]
    refine SatD.cond rfl (fun e2 => ?_) (fun e2 => ?_)
    · simp only [decide_eq_true_eq] at e2
      have hi : tot = [[.agg (edgeOf nt st r f t k r.price f []).enc]] := by rw [← htot]; simp [inst, e1, e2, yieldsOf]
      rw [hi]
      refine SatD.reg hΓ follows [] ?_
      simp [d47r3, Γ6, specP, fn46, yieldsOf, finI]
      exact hcall _ _ _ ⟨[], rfl⟩
    · refine SatD.skip ?_
      simp only [decide_eq_false_iff_not] at e2
      have hi : tot = [] := by rw [← htot]; simp [inst, e1, e2, yieldsOf]
      simp [hi, finI]
  simp only [decide_eq_false_iff_not] at e1
  refine SatD.regSeq hΓ follows [0, 1, 2, 3, 4, 5, 6, 12, 25] ?_
  simp [d47r4]
  refine SatD.cond rfl (fun e2 => ?_) (fun e2 => ?_)
  · simp only [decide_eq_true_eq] at e2
    have hi : tot = yieldsOf ((List.range arcs.length).flatMap (termAt nt st r arcs f t k)) := by rw [← htot]; simp only [inst, e2]; rfl
    refine SatD.regSeq hΓ follows [0, 1, 2, 3, 4, 28, 29, 30] ?_
    simp [d47r5]
    refine SatD.block ?_ -- 1
    refine SatD.loop (fun y : Nat => ⟨DM.look [(0, .yld), (1, .v (.box r.enc)), (2, .v (.box [ti f])), (3, .v (.box [ti t])), (4, .v (.box [.fn (.func 46) (caps46 nt st r f t k)])), (28, .v (.sl (arcsT arcs))), (29, .v (ti arcs.length)), (30, .v (ti y))], obs [], 2000, 0, yieldsOf (((List.range arcs.length).drop y).flatMap (termAt nt st r arcs f t k))⟩)
      (fun y => y ≤ arcs.length) (fun y => arcs.length - y) 0 ?_ (by simp) (fun y hy => ?_)
    · rw [hi]
      refine Le.keep ?_ ?_ ?_ ?_
      · simp
      · simp
      · simp
      · simp [Rule.enc, caps46]
    have hlen := ha.1
    refine SatD.regSeq hΓ follows [0, 1, 2, 3, 4, 28, 29, 30, 31] ?_
    simp [d47r6]
    refine SatD.seq ?_
    refine SatD.cond rfl (fun hc => ?_) (fun hc => ?_)
    · simp at hc
      obtain ⟨a, hga⟩ : ∃ a, arcs.getD y default = a := ⟨_, rfl⟩
      have hrow := rowAt_arcs hc
      rw [hga] at hrow
      have hac : 0 ≤ a.cost ∧ a.cost ≤ Inf := ha.2 a (by rw [← hga]; simp [hc])
      rw [range_drop hc]
      simp only [List.flatMap_cons, yieldsOf, List.map_append]
      refine SatD.skip ?_
      simp
      refine SatD.seq ?_
      refine SatD.block ?_ -- 2
      refine SatD.regSeq hΓ follows [0, 1, 2, 3, 4, 8, 9, 28, 29, 30] ?_
      simp [d47r7, hrow, hc, Arc.enc]
      refine SatD.le (Le.keep (o := []) (l := [(0, .yld), (1, .v (.box r.enc)), (2, .v (.box [ti f])), (3, .v (.box [ti t])), (4, .v (.box [.fn (.func 46) (caps46 nt st r f t k)])), (8, .v (ti y)), (9, .v (.box a.enc)), (28, .v (.sl (arcsT arcs))), (29, .v (ti arcs.length)), (30, .v (ti y))]) (nxt' := 3000) ?_ ?_ ?_ ?_) ?_
      · simp
      · simp
      · simp
      · simp [Rule.enc, caps46, Arc.enc]
      simp only [Inf] at hac
      have hwr : IntKind.i64.wrap (r.price + a.cost) = r.price + a.cost := wrap_id (by unfold okR at hr1; omega)
      refine SatD.to ⟨DM.look [(0, .yld), (1, .v (.box r.enc)), (2, .v (.box [ti f])), (3, .v (.box [ti t])), (4, .v (.box [.fn (.func 46) (caps46 nt st r f t k)])), (28, .v (.sl (arcsT arcs))), (29, .v (ti arcs.length)), (30, .v (ti y))], obs [], 4000, 0, yieldsOf (((List.range arcs.length).drop (y + 1)).flatMap (termAt nt st r arcs f t k))⟩ ?_ ?_
      · by_cases hm : a.f = f ∧ a.t = t ∧ a.term = r.a
        · obtain ⟨m1, m2, m3⟩ := hm
          have ht : termAt nt st r arcs f t k y = [edgeOf nt st r f t k (r.price + a.cost) y []] := by simp only [termAt, hga, m1, m2, m3, and_self, if_true]
          simp only [ht, List.map_cons, List.map_nil, List.cons_append, List.nil_append]
          refine SatD.regSeq hΓ follows [0, 1, 2, 3, 4, 28, 29, 30, 64] ?_
          simp only [d47r8, Arc.enc, Rule.enc, caps46]
          simp [Γ6, specP, fn46, m1, m2, m3, hwr]
          refine ⟨hcall _ _ _ ⟨[], rfl⟩, ?_⟩
          refine SatD.cond rfl (fun h => by cases h) (fun _ => ?_)
          refine SatD.skip ?_
          refine ⟨rfl, Le.keep ?_ ?_ ?_ ?_⟩ <;> simp
        · have ht : termAt nt st r arcs f t k y = [] := by simp only [termAt, hga, hm, if_false]
          simp only [ht, List.map_nil, List.nil_append]
          refine SatD.regToS hΓ follows [(0, .yld), (1, .v (.box r.enc)), (2, .v (.box [ti f])), (3, .v (.box [ti t])), (4, .v (.box [.fn (.func 46) (caps46 nt st r f t k)])), (28, .v (.sl (arcsT arcs))), (29, .v (ti arcs.length)), (30, .v (ti y)), (64, .v (.bool false))] ?_ ?_
          · simp only [d47r8, Arc.enc, Rule.enc, caps46]
            simp [Γ6, specP, fn46, hwr]
            intro m1 m2 m3
            exact absurd ⟨m1, m2, m3⟩ hm
          refine SatD.cond rfl (fun h => by cases h) (fun _ => ?_)
          refine SatD.skip ?_
          refine ⟨rfl, Le.keep ?_ ?_ ?_ ?_⟩ <;> simp [yieldsOf]
      · simp
        refine SatD.reg hΓ follows [0, 1, 2, 3, 4, 28, 29, 30] ?_
        simp [d47r9]
        refine ⟨y + 1, Le.keep ?_ ?_ ?_ ?_, ?_, ?_⟩ -- next round
        · simp
        · simp
        · simp
        · simp
          exact (wrap_id (by omega)).symm
        · omega
        · omega
    · simp at hc
      have hy2 : y = arcs.length := by omega
      subst hy2
      refine SatD.exit ?_
      simp [finI, yieldsOf]
  simp only [decide_eq_false_iff_not] at e2
  refine SatD.regSeq hΓ follows [0, 1, 2, 3, 4, 6, 12, 66] ?_
  simp [d47r10]
  refine SatD.cond rfl (fun e3 => ?_) (fun e3 => ?_)
  · simp only [decide_eq_true_eq] at e3
    have hi : tot = yieldsOf [edgeOf nt st r f t k r.price f [idxI nt st r.a f t]] := by rw [← htot]; simp only [inst, e3]; rfl
    rw [hi]
    refine SatD.reg hΓ follows [] ?_
    simp [d47r11, Γ6, specP, fn46, yieldsOf, finI, spec37, fn37]
    exact ⟨hcall37 _ _ _ (hr3 e3) (by omega) (by omega), hcall _ _ _ ⟨[_], rfl⟩⟩
  simp only [decide_eq_false_iff_not] at e3
  refine SatD.regSeq hΓ follows [0, 1, 2, 3, 4, 6, 82] ?_
  simp [d47r12]
  refine SatD.cond rfl (fun e4 => ?_) (fun e4 => ?_)
  · simp only [decide_eq_true_eq] at e4
    obtain ⟨N, hN⟩ : ∃ N, (t - f + 1).toNat = N := ⟨_, rfl⟩
    have hi : tot = yieldsOf ((List.range N).map (binAt nt st r f t k)) := by rw [← htot, ← hN]; simp only [inst, e4]; rfl
    refine SatD.regSeq hΓ follows [0, 1, 2, 3, 4, 6, 10] ?_
    simp [d47r13]
    obtain ⟨rest, hrest⟩ : ∃ rest : Nat → List (List T), ∀ y, rest y = yieldsOf (((List.range N).drop y).map (binAt nt st r f t k)) := ⟨_, fun _ => rfl⟩
    refine SatD.block ?_ -- 3
    refine SatD.loop (fun y : Nat => ⟨DM.look [(0, .yld), (1, .v (.box r.enc)), (2, .v (.box [ti f])), (3, .v (.box [ti t])), (4, .v (.box [.fn (.func 46) (caps46 nt st r f t k)])), (6, .v (.box [ti nt, ti st])), (10, .v (ti (f + y)))], obs [], 2000, 0, rest y⟩)
      (fun y => y ≤ N) (fun y => N - y) 0 ?_ (by simp) (fun y hy => ?_)
    · rw [hi, show yieldsOf ((List.range N).map (binAt nt st r f t k)) = rest 0 by rw [hrest]; rfl]
      refine Le.keep ?_ ?_ ?_ ?_
      · simp
      · simp
      · simp
      · simp [Rule.enc, caps46]
    refine SatD.seq ?_
    refine SatD.regSeq hΓ follows [0, 1, 2, 3, 4, 6, 10, 87] ?_
    simp [d47r14]
    refine SatD.cond rfl (fun hc => ?_) (fun hc => ?_)
    · simp at hc
      have hyN : y < N := by omega
      have hry : rest y = [.agg (binAt nt st r f t k y).enc] :: rest (y + 1) := by rw [hrest, hrest, range_drop hyN]; rfl
      rw [hry]
      obtain ⟨g1, g2, g3, g4⟩ := hr4 e4
      refine SatD.skip ?_
      simp
      refine SatD.seq ?_
      refine SatD.block ?_ -- 4
      refine SatD.regSeq hΓ follows [0, 1, 2, 3, 4, 6, 10, 110] ?_
      simp only [d47r15, Rule.enc, caps46]
      simp [Γ6, specP, fn46, spec37, fn37, binAt]
      refine ⟨hcall37 _ _ _ (by omega) (by omega) (by omega), hcall37 _ _ _ (by omega) (by omega) (by omega), hcall _ _ _ ⟨[_, _], rfl⟩, ?_⟩
      refine SatD.cond rfl (fun h => by cases h) (fun _ => ?_)
      refine SatD.skip ?_
      simp
      refine SatD.reg hΓ follows [0, 1, 2, 3, 4, 6, 10] ?_
      simp [d47r16]
      refine ⟨y + 1, Le.keep ?_ ?_ ?_ ?_, ?_, ?_⟩ -- next round
      · simp
      · simp
      · simp
      · simp [Rule.enc, caps46]
        rw [wrap_id (by omega)]; omega
      · omega
      · omega
    · simp at hc
      have hy2 : y = N := by omega
      subst hy2
      refine SatD.exit ?_
      simp [finI, yieldsOf, hrest]
  · refine SatD.skip ?_
    simp only [decide_eq_false_iff_not] at e4
    have hi : tot = [] := by rw [← htot]; simp [inst, e1, e2, e3, e4, yieldsOf]
    simp [hi, finI]
end Go.Proofs
namespace Go.DM.Srt
set_option linter.unusedVariables false
set_option linter.unusedSimpArgs false
section
variable {α : Type} (lt : α → α → Bool)

/-- A strict weak order. -/
structure SWO : Prop where
  irrefl : ∀ x, lt x x = false
  trans : ∀ x y z, lt x y = true → lt y z = true → lt x z = true
  ntrans : ∀ x y z, lt x y = false → lt y z = false → lt x z = false
/-- No element is ahead of one that stands before it. -/
def Sorted (l : List α) : Prop := l.Pairwise fun a b => lt b a = false
def eqv (x y : α) : Bool := !lt x y && !lt y x

/-- One more element, put behind the last that it is not ahead of; the list lies backwards. -/
def insR (x : α) : List α → List α
  | [] => [x]
  | y :: ys => if lt x y then y :: insR x ys else x :: y :: ys
def isortR (l : List α) : List α := l.foldl (fun acc x => insR lt x acc) []
/-- The stable sort. -/
def isort (l : List α) : List α := (isortR lt l).reverse

variable {lt}
theorem SWO.asymm (h : SWO lt) {x y : α} (h1 : lt x y = true) : lt y x = false := by
  cases h2 : lt y x with
  | false => rfl
  | true => have := h.trans x y x h1 h2; rw [h.irrefl] at this; cases this

theorem mem_insR (x : α) : ∀ (l : List α) (z : α), z ∈ insR lt x l ↔ z = x ∨ z ∈ l
  | [], z => by simp [insR]
  | y :: ys, z => by
    simp only [insR]
    split
    · simp only [List.mem_cons, mem_insR x ys z]
      constructor
      · rintro (h | h | h) <;> simp [h]
      · rintro (h | h | h) <;> simp [h]
    · simp
theorem insR_sorted (h : SWO lt) (x : α) : ∀ l : List α, l.Pairwise (fun a b => lt a b = false) → (insR lt x l).Pairwise fun a b => lt a b = false
  | [], _ => by simp [insR]
  | y :: ys, hs => by
    simp only [insR]
    rw [List.pairwise_cons] at hs
    split
    · rename_i hxy
      rw [List.pairwise_cons]
      refine ⟨fun z hz => ?_, insR_sorted h x ys hs.2⟩
      rcases (mem_insR x ys z).1 hz with rfl | hz
      · exact h.asymm hxy
      · exact hs.1 z hz
    · rename_i hxy
      have hxy : lt x y = false := by simpa using hxy
      rw [List.pairwise_cons]
      refine ⟨fun z hz => ?_, List.pairwise_cons.2 hs⟩
      rcases List.mem_cons.1 hz with rfl | hz
      · exact hxy
      · exact h.ntrans x y z hxy (hs.1 z hz)
theorem insR_filter (h : SWO lt) (x z : α) : ∀ l : List α, (insR lt x l).filter (eqv lt z) = (if eqv lt z x then x :: l.filter (eqv lt z) else l.filter (eqv lt z))
  | [] => by simp [insR, List.filter_cons]
  | y :: ys => by
    simp only [insR]
    split
    · rename_i hxy
      rw [List.filter_cons, insR_filter h x z ys]
      have hn : eqv lt z x = true → eqv lt z y = false := by
        intro hx
        simp only [eqv, Bool.and_eq_true, Bool.not_eq_true'] at hx
        cases hy : eqv lt z y with
        | false => rfl
        | true =>
          simp only [eqv, Bool.and_eq_true, Bool.not_eq_true'] at hy
          have := h.ntrans x z y hx.2 hy.1
          rw [hxy] at this; cases this
      by_cases hzx : eqv lt z x = true
      · simp [hzx, hn hzx, List.filter_cons]
      · simp only [Bool.not_eq_true] at hzx
        simp [hzx, List.filter_cons]
    · rw [List.filter_cons]
theorem foldl_sorted (h : SWO lt) : ∀ (l acc : List α), acc.Pairwise (fun a b => lt a b = false) → (l.foldl (fun acc x => insR lt x acc) acc).Pairwise fun a b => lt a b = false
  | [], acc, ha => ha
  | x :: l, acc, ha => foldl_sorted h l _ (insR_sorted h x acc ha)
theorem foldl_filter (h : SWO lt) (z : α) : ∀ (l acc : List α), (l.foldl (fun acc x => insR lt x acc) acc).filter (eqv lt z) = (l.filter (eqv lt z)).reverse ++ acc.filter (eqv lt z)
  | [], acc => by simp
  | x :: l, acc => by
    rw [List.foldl_cons, foldl_filter h z l, insR_filter h]
    by_cases hx : eqv lt z x = true
    · simp [hx, List.filter_cons]
    · simp only [Bool.not_eq_true] at hx
      simp [hx, List.filter_cons]
theorem isort_sorted (h : SWO lt) (l : List α) : Sorted lt (isort lt l) := by
  unfold Sorted isort
  rw [List.pairwise_reverse]
  exact foldl_sorted h l [] List.Pairwise.nil
theorem isort_filter (h : SWO lt) (z : α) (l : List α) : (isort lt l).filter (eqv lt z) = l.filter (eqv lt z) := by
  unfold isort isortR
  rw [List.filter_reverse, foldl_filter h z]
  simp
theorem eqv_self (h : SWO lt) (x : α) : eqv lt x x = true := by simp [eqv, h.irrefl]
theorem foldl_mem : ∀ (l acc : List α) (z : α), z ∈ l.foldl (fun acc x => insR lt x acc) acc ↔ z ∈ l ∨ z ∈ acc
  | [], acc, z => by simp
  | x :: l, acc, z => by
    rw [List.foldl_cons, foldl_mem l, mem_insR]
    simp only [List.mem_cons]
    constructor
    · rintro (h | h | h) <;> simp [h]
    · rintro ((h | h) | h) <;> simp [h]
@[simp] theorem mem_isort (l : List α) (z : α) : z ∈ isort lt l ↔ z ∈ l := by simp [isort, isortR, foldl_mem]
theorem insR_length (x : α) : ∀ l : List α, (insR lt x l).length = l.length + 1
  | [] => rfl
  | y :: ys => by simp only [insR]; split <;> simp [insR_length x ys]
theorem foldl_length : ∀ l acc : List α, (l.foldl (fun acc x => insR lt x acc) acc).length = l.length + acc.length
  | [], acc => by simp
  | x :: l, acc => by rw [List.foldl_cons, foldl_length l, insR_length]; simp; omega
@[simp] theorem isort_length (l : List α) : (isort lt l).length = l.length := by simp [isort, isortR, foldl_length]

/-- Two sorted lists with the same elements of each kind, in the same order, are equal. -/
theorem sorted_unique (h : SWO lt) : ∀ (l1 l2 : List α), Sorted lt l1 → Sorted lt l2 → (∀ x, l1.filter (eqv lt x) = l2.filter (eqv lt x)) → l1 = l2
  | [], [], _, _, _ => rfl
  | [], b :: t, _, _, hf => by
    have := hf b
    simp [List.filter_cons, eqv_self h] at this
  | a :: t, [], _, _, hf => by
    have := hf a
    simp [List.filter_cons, eqv_self h] at this
  | a :: t1, b :: t2, s1, s2, hf => by
    have s1' := List.pairwise_cons.1 s1
    have s2' := List.pairwise_cons.1 s2
    have hab : lt b a = false := by
      have : b ∈ a :: t1 := by
        have : b ∈ (a :: t1).filter (eqv lt b) := by rw [hf b]; simp [List.filter_cons, eqv_self h]
        exact (List.mem_filter.1 this).1
      rcases List.mem_cons.1 this with rfl | hm
      · exact h.irrefl _
      · exact s1'.1 b hm
    have hba : lt a b = false := by
      have : a ∈ b :: t2 := by
        have : a ∈ (b :: t2).filter (eqv lt a) := by rw [← hf a]; simp [List.filter_cons, eqv_self h]
        exact (List.mem_filter.1 this).1
      rcases List.mem_cons.1 this with rfl | hm
      · exact h.irrefl _
      · exact s2'.1 a hm
    have he : eqv lt a b = true := by simp [eqv, hab, hba]
    have h1 := hf a
    rw [List.filter_cons, List.filter_cons, eqv_self h, he] at h1
    simp only [if_true, List.cons.injEq] at h1
    obtain ⟨rfl, _⟩ := h1
    congr 1
    refine sorted_unique h t1 t2 s1'.2 s2'.2 fun x => ?_
    have := hf x
    rw [List.filter_cons, List.filter_cons] at this
    split at this
    · exact (List.cons.inj this).2
    · exact this
theorem isort_eq (h : SWO lt) {l l' : List α} (hs : Sorted lt l') (hf : ∀ x, l'.filter (eqv lt x) = l.filter (eqv lt x)) : isort lt l = l' :=
  sorted_unique h _ _ (isort_sorted h l) hs fun x => by rw [isort_filter h, hf]
theorem isort_of_sorted (h : SWO lt) {l : List α} (hs : Sorted lt l) : isort lt l = l := isort_eq h hs fun _ => rfl

theorem sorted_append {l1 l2 : List α} : Sorted lt (l1 ++ l2) ↔ Sorted lt l1 ∧ Sorted lt l2 ∧ ∀ a ∈ l1, ∀ b ∈ l2, lt b a = false := by
  unfold Sorted
  rw [List.pairwise_append]

/-- The step of the symmetric merge. -/
theorem merge_step (h : SWO lt) {L1 L2 R1 R2 : List α} (hL : Sorted lt (L1 ++ L2)) (hR : Sorted lt (R1 ++ R2)) (h1 : ∀ r ∈ R1, ∀ l ∈ L2, lt r l = true) (h2 : ∀ l ∈ L1, ∀ r ∈ R2, lt r l = false) :
    isort lt (L1 ++ R1) ++ isort lt (L2 ++ R2) = isort lt (L1 ++ L2 ++ (R1 ++ R2)) := by
  rw [sorted_append] at hL hR
  symm
  refine isort_eq h ?_ fun x => ?_
  · rw [sorted_append]
    refine ⟨isort_sorted h _, isort_sorted h _, fun a ha b hb => ?_⟩
    simp only [mem_isort, List.mem_append] at ha hb
    rcases ha with ha | ha <;> rcases hb with hb | hb
    · exact hL.2.2 a ha b hb
    · exact h2 a ha b hb
    · exact h.asymm (h1 a ha b hb)
    · exact hR.2.2 a ha b hb
  · simp only [List.filter_append, isort_filter h]
    have : R1.filter (eqv lt x) ++ L2.filter (eqv lt x) = L2.filter (eqv lt x) ++ R1.filter (eqv lt x) := by
      by_cases e : R1.filter (eqv lt x) = []
      · simp [e]
      · obtain ⟨r, hr⟩ := List.exists_mem_of_ne_nil _ e
        obtain ⟨hr1, hr2⟩ := List.mem_filter.1 hr
        have : L2.filter (eqv lt x) = [] := by
          rw [List.filter_eq_nil_iff]
          intro l hl hx
          simp only [eqv, Bool.and_eq_true, Bool.not_eq_true'] at hr2 hx
          have k1 := h1 r hr1 l hl
          have k2 := h.ntrans r x l hr2.2 hx.1
          rw [k1] at k2; cases k2
        simp [this]
    simp only [List.append_assoc]
    rw [← List.append_assoc (R1.filter _), this, List.append_assoc]
theorem sorted_mid (h : SWO lt) {l1 l2 : List α} {x : α} (h1 : Sorted lt l1) (h2 : Sorted lt l2) (h12 : ∀ a ∈ l1, ∀ b ∈ l2, lt b a = false) (hx1 : ∀ a ∈ l1, lt x a = false) (hx2 : ∀ b ∈ l2, lt b x = false) : Sorted lt (l1 ++ x :: l2) := by
  rw [sorted_append]
  refine ⟨h1, List.pairwise_cons.2 ⟨hx2, h2⟩, fun a ha b hb => ?_⟩
  rcases List.mem_cons.1 hb with rfl | hb
  · exact hx1 a ha
  · exact h12 a ha b hb
/-- An element ahead of a sorted list goes behind those that are less. -/
theorem ins_front (h : SWO lt) {R1 R2 : List α} {x : α} (hR : Sorted lt (R1 ++ R2)) (h1 : ∀ r ∈ R1, lt r x = true) (h2 : ∀ r ∈ R2, lt r x = false) : isort lt (x :: (R1 ++ R2)) = R1 ++ x :: R2 := by
  rw [sorted_append] at hR
  refine isort_eq h (sorted_mid h hR.1 hR.2.1 hR.2.2 (fun a ha => h.asymm (h1 a ha)) h2) fun z => ?_
  simp only [List.filter_append, List.filter_cons]
  by_cases hz : eqv lt z x = true
  · have : R1.filter (eqv lt z) = [] := by
      rw [List.filter_eq_nil_iff]
      intro r hr hx
      simp only [eqv, Bool.and_eq_true, Bool.not_eq_true'] at hz hx
      have := h.ntrans r z x hx.2 hz.1
      rw [h1 r hr] at this; cases this
    simp [hz, this]
  · simp only [Bool.not_eq_true] at hz
    simp [hz]
/-- An element behind a sorted list goes ahead of those that are greater. -/
theorem ins_back (h : SWO lt) {L1 L2 : List α} {x : α} (hL : Sorted lt (L1 ++ L2)) (h1 : ∀ l ∈ L1, lt x l = false) (h2 : ∀ l ∈ L2, lt x l = true) : isort lt (L1 ++ L2 ++ [x]) = L1 ++ x :: L2 := by
  rw [sorted_append] at hL
  refine isort_eq h (sorted_mid h hL.1 hL.2.1 hL.2.2 h1 fun b hb => h.asymm (h2 b hb)) fun z => ?_
  simp only [List.filter_append, List.filter_cons, List.filter_nil]
  by_cases hz : eqv lt z x = true
  · have : L2.filter (eqv lt z) = [] := by
      rw [List.filter_eq_nil_iff]
      intro r hr hx
      simp only [eqv, Bool.and_eq_true, Bool.not_eq_true'] at hz hx
      have := h.ntrans x z r hz.2 hx.1
      rw [h2 r hr] at this; cases this
    simp [hz, this]
  · simp only [Bool.not_eq_true] at hz
    simp [hz]
end

section
variable {α : Type}
def seg (D : List α) (i j : Nat) : List α := (D.drop i).take (j - i)
@[simp] theorem seg_length (D : List α) (i j : Nat) : (seg D i j).length = min (j - i) (D.length - i) := by simp [seg]
theorem mem_seg [Inhabited α] {D : List α} {i j : Nat} {x : α} : x ∈ seg D i j ↔ ∃ k, i ≤ k ∧ k < j ∧ k < D.length ∧ D.getD k default = x := by
  unfold seg
  rw [List.mem_iff_getElem]
  constructor
  · rintro ⟨n, hn, rfl⟩
    simp only [List.length_take, List.length_drop] at hn
    refine ⟨i + n, by omega, by omega, by omega, ?_⟩
    rw [List.getElem_take, List.getElem_drop, List.getD_eq_getElem?_getD, List.getElem?_eq_getElem (by omega)]; rfl
  · rintro ⟨k, h1, h2, h3, rfl⟩
    refine ⟨k - i, by simp only [List.length_take, List.length_drop]; omega, ?_⟩
    rw [List.getElem_take, List.getElem_drop, List.getD_eq_getElem?_getD, List.getElem?_eq_getElem h3]
    simp only [show i + (k - i) = k by omega, Option.getD_some]
theorem seg_append (D : List α) {i j k : Nat} (h1 : i ≤ j) (h2 : j ≤ k) : seg D i k = seg D i j ++ seg D j k := by
  unfold seg
  rw [show k - i = (j - i) + (k - j) by omega, List.take_add, List.drop_drop, show i + (j - i) = j by omega]
theorem seg_drop (D : List α) {i j : Nat} (h : i ≤ j) : seg D i j ++ D.drop j = D.drop i := by
  unfold seg
  conv => rhs; rw [← List.take_append_drop (j - i) (D.drop i)]
  rw [List.drop_drop, show i + (j - i) = j by omega]
theorem seg_app (A X B : List α) {i j : Nat} (hi : A.length = i) (hj : i + X.length = j) : seg (A ++ (X ++ B)) i j = X := by
  subst hi
  unfold seg
  rw [List.drop_left, show j - A.length = X.length by omega, List.take_left]
@[simp] theorem seg_self (D : List α) (i : Nat) : seg D i i = [] := by simp [seg]

/-- The stable sort of a part. -/
def sortAt (lt : α → α → Bool) (D : List α) (a b : Nat) : List α := D.take a ++ (isort lt (seg D a b) ++ D.drop b)
/-- Two neighbouring parts change their places. -/
def rotAt (D : List α) (a m b : Nat) : List α := D.take a ++ (seg D m b ++ (seg D a m ++ D.drop b))
/-- Two parts of one length change their places. -/
def swapAt (D : List α) (a b n : Nat) : List α := D.take a ++ (seg D b (b + n) ++ (seg D (a + n) b ++ (seg D a (a + n) ++ D.drop (b + n))))

theorem split4 (D : List α) {a m b : Nat} (h1 : a ≤ m) (h2 : m ≤ b) : D = D.take a ++ (seg D a m ++ (seg D m b ++ D.drop b)) := by
  conv => lhs; rw [← List.take_append_drop a D]
  rw [seg_drop D h2, seg_drop D h1]
theorem take_app (A B : List α) {i : Nat} (hi : A.length = i) : (A ++ B).take i = A := by subst hi; simp
theorem drop_app (A X B : List α) {i : Nat} (hi : A.length + X.length = i) : (A ++ (X ++ B)).drop i = B := by
  subst hi; rw [← List.append_assoc, List.drop_left' (by simp)]
theorem rotAt_app (A P Q B : List α) {a m b : Nat} (ha : A.length = a) (hm : a + P.length = m) (hb : m + Q.length = b) : rotAt (A ++ (P ++ (Q ++ B))) a m b = A ++ (Q ++ (P ++ B)) := by
  unfold rotAt
  rw [take_app _ _ ha, seg_app A P _ ha hm, ← List.append_assoc A P, seg_app (A ++ P) Q B (by simp; omega) (by omega), drop_app (A ++ P) Q B (by simp; omega)]
theorem swapAt_app (A X M Y B : List α) {a b n : Nat} (ha : A.length = a) (hx : X.length = n) (hm : a + n + M.length = b) (hy : Y.length = n) : swapAt (A ++ (X ++ (M ++ (Y ++ B)))) a b n = A ++ (Y ++ (M ++ (X ++ B))) := by
  have s1 : seg (A ++ (X ++ (M ++ (Y ++ B)))) a (a + n) = X := seg_app A X _ ha (by omega)
  have s2 : seg (A ++ (X ++ (M ++ (Y ++ B)))) (a + n) b = M := by
    rw [show A ++ (X ++ (M ++ (Y ++ B))) = (A ++ X) ++ (M ++ (Y ++ B)) by simp]
    exact seg_app _ M _ (by simp; omega) (by omega)
  have s3 : seg (A ++ (X ++ (M ++ (Y ++ B)))) b (b + n) = Y := by
    rw [show A ++ (X ++ (M ++ (Y ++ B))) = (A ++ X ++ M) ++ (Y ++ B) by simp]
    exact seg_app _ Y _ (by simp; omega) (by omega)
  have s4 : (A ++ (X ++ (M ++ (Y ++ B)))).drop (b + n) = B := by
    rw [show A ++ (X ++ (M ++ (Y ++ B))) = (A ++ X ++ M) ++ (Y ++ B) by simp]
    exact drop_app _ Y _ (by simp; omega)
  unfold swapAt
  rw [take_app _ _ ha, s1, s2, s3, s4]
theorem sortAt_app (lt : α → α → Bool) (A X B : List α) {a b : Nat} (ha : A.length = a) (hb : a + X.length = b) : sortAt lt (A ++ (X ++ B)) a b = A ++ (isort lt X ++ B) := by
  unfold sortAt
  rw [take_app _ _ ha, seg_app A X B ha hb, drop_app A X B (by omega)]
@[simp] theorem sortAt_length (lt : α → α → Bool) (D : List α) {a b : Nat} (h1 : a ≤ b) (h2 : b ≤ D.length) : (sortAt lt D a b).length = D.length := by
  simp [sortAt]; omega
theorem mem_sortAt {lt : α → α → Bool} {D : List α} {a b : Nat} {x : α} (h1 : a ≤ b) : x ∈ sortAt lt D a b ↔ x ∈ D := by
  unfold sortAt
  rw [List.mem_append, List.mem_append, mem_isort]
  conv => rhs; rw [← List.take_append_drop a D, ← seg_drop D h1]
  rw [List.mem_append, List.mem_append]
theorem mem_rotAt {D : List α} {a m b : Nat} {x : α} (h1 : a ≤ m) (h2 : m ≤ b) : x ∈ rotAt D a m b ↔ x ∈ D := by
  unfold rotAt
  conv => rhs; rw [split4 D h1 h2]
  simp only [List.mem_append]
  constructor
  · rintro (h | h | h | h) <;> simp [h]
  · rintro (h | h | h | h) <;> simp [h]
theorem rotAt_length {D : List α} {a m b : Nat} (h1 : a ≤ m) (h2 : m ≤ b) (h3 : b ≤ D.length) : (rotAt D a m b).length = D.length := by
  simp [rotAt]; omega

/-- The symmetric merge, its split found. -/
theorem symMerge_law {lt : α → α → Bool} (h : SWO lt) {D : List α} {a s m e b mid : Nat} (h1 : a ≤ s) (h2 : s ≤ m) (h3 : m ≤ e) (h4 : e ≤ b) (h5 : b ≤ D.length) (hmid : s + e = mid + m)
    (hL : Sorted lt (seg D a m)) (hR : Sorted lt (seg D m b)) (k1 : ∀ r ∈ seg D m e, ∀ l ∈ seg D s m, lt r l = true) (k2 : ∀ l ∈ seg D a s, ∀ r ∈ seg D e b, lt r l = false) :
    let D1 := rotAt D s m e
    let D2 := sortAt lt D1 a mid
    (Sorted lt (seg D1 a s) ∧ Sorted lt (seg D1 s mid)) ∧ (Sorted lt (seg D2 mid e) ∧ Sorted lt (seg D2 e b)) ∧ sortAt lt D2 mid b = sortAt lt D a b ∧ (s = a → D2 = D1) ∧ (mid ≤ s → D2 = D1) ∧ (e ≤ mid → sortAt lt D2 mid b = D2) ∧ (b ≤ e → sortAt lt D2 mid b = D2) := by
  have lA : (D.take a).length = a := by simp; omega
  have lL1 : (seg D a s).length = s - a := by simp; omega
  have lL2 : (seg D s m).length = m - s := by simp; omega
  have lR1 : (seg D m e).length = e - m := by simp; omega
  have lR2 : (seg D e b).length = b - e := by simp; omega
  have hD : D = D.take a ++ (seg D a s ++ (seg D s m ++ (seg D m e ++ (seg D e b ++ D.drop b)))) := by
    rw [seg_drop D h4, seg_drop D h3, seg_drop D h2, seg_drop D h1, List.take_append_drop]
  rw [seg_append D h1 h2] at hL
  rw [seg_append D h3 h4] at hR
  generalize D.take a = A at lA hD
  generalize seg D a s = L1 at *
  generalize seg D s m = L2 at *
  generalize seg D m e = R1 at *
  generalize seg D e b = R2 at *
  generalize D.drop b = B at *
  subst hD
  have e1 : rotAt (A ++ (L1 ++ (L2 ++ (R1 ++ (R2 ++ B))))) s m e = A ++ (L1 ++ (R1 ++ (L2 ++ (R2 ++ B)))) := by
    rw [← List.append_assoc A L1, rotAt_app (A ++ L1) L2 R1 _ (by simp; omega) (by omega) (by omega), List.append_assoc]
  have e2 : sortAt lt (A ++ (L1 ++ (R1 ++ (L2 ++ (R2 ++ B))))) a mid = A ++ (isort lt (L1 ++ R1) ++ (L2 ++ (R2 ++ B))) := by
    rw [← List.append_assoc L1 R1, sortAt_app lt A (L1 ++ R1) _ lA (by simp; omega)]
  have e3 : sortAt lt (A ++ (isort lt (L1 ++ R1) ++ (L2 ++ (R2 ++ B)))) mid b = A ++ (isort lt (L1 ++ R1) ++ (isort lt (L2 ++ R2) ++ B)) := by
    rw [show A ++ (isort lt (L1 ++ R1) ++ (L2 ++ (R2 ++ B))) = (A ++ isort lt (L1 ++ R1)) ++ ((L2 ++ R2) ++ B) by simp, sortAt_app lt (A ++ isort lt (L1 ++ R1)) (L2 ++ R2) _ (by simp; omega) (by simp; omega), List.append_assoc]
  have e4 : sortAt lt (A ++ (L1 ++ (L2 ++ (R1 ++ (R2 ++ B))))) a b = A ++ (isort lt (L1 ++ L2 ++ (R1 ++ R2)) ++ B) := by
    have := sortAt_app lt A (L1 ++ L2 ++ (R1 ++ R2)) B lA (b := b) (by simp; omega)
    simp only [List.append_assoc] at this ⊢
    exact this
  simp only [e1, e2, e3]
  have hL' := sorted_append.1 hL
  have hR' := sorted_append.1 hR
  refine ⟨⟨?_, ?_⟩, ⟨?_, ?_⟩, ?_, ?_, ?_, ?_, ?_⟩
  · rw [seg_app A L1 _ lA (by omega)]; exact hL'.1
  · rw [← List.append_assoc A L1, seg_app (A ++ L1) R1 _ (by simp; omega) (by omega)]; exact hR'.1
  · rw [← List.append_assoc A, seg_app (A ++ isort lt (L1 ++ R1)) L2 _ (by simp; omega) (by omega)]; exact hL'.2.1
  · rw [← List.append_assoc A, ← List.append_assoc (A ++ isort lt (L1 ++ R1)), seg_app (A ++ isort lt (L1 ++ R1) ++ L2) R2 _ (by simp; omega) (by omega)]; exact hR'.2.1
  · rw [e4, ← merge_step h hL hR k1 k2]; simp only [List.append_assoc]
  · intro hs
    have : L1 = [] := List.eq_nil_of_length_eq_zero (by omega)
    subst this
    rw [List.nil_append, isort_of_sorted h hR'.1]; simp
  · intro hs
    have : R1 = [] := List.eq_nil_of_length_eq_zero (by omega)
    subst this
    rw [List.append_nil, isort_of_sorted h hL'.1]; simp
  · intro hs
    have : L2 = [] := List.eq_nil_of_length_eq_zero (by omega)
    subst this
    rw [List.nil_append, isort_of_sorted h hR'.2.1]; simp
  · intro hs
    have : R2 = [] := List.eq_nil_of_length_eq_zero (by omega)
    subst this
    rw [List.append_nil, isort_of_sorted h hL'.2.1]; simp
end
end Go.DM.Srt
namespace Go.Proofs
open Go.DM Go.DM.Srt
set_option linter.unusedSimpArgs false
set_option linter.unusedVariables false

section
variable (good : List T → Prop) (cmpF : List T → List T → Int)
def cmpSpec : DM.Spec := specP (fun ts => ∃ x y, ts = [.agg x, .agg y] ∧ good x ∧ good y) (fun | [.agg x, .agg y] => ti (cmpF x y) | _ => .bool false) true
/-- The contract of a comparison. -/
structure CmpOk (f : Nat) (n : Nat) : Prop where
  run : ∀ x y, good x → good y → CallsOk Try.prog f [.agg x, .agg y] (ti (cmpF x y))
  row : ∀ x, good x → rowOk n x
abbrev ltF (x y : List T) : Bool := decide (cmpF x y < 0)
variable {good cmpF}
theorem cmp_env {f n : Nat} (h : CmpOk good cmpF f n) : EnvOk Try.prog (envOf [(f, cmpSpec good cmpF)]) := by
  refine EnvOk.cons EnvOk.nil ?_
  rintro ts ⟨x, y, rfl, h1, h2⟩
  exact ⟨h.run x y h1 h2, fun _ => rfl⟩

theorem rowAt_app {A B : List (List T)} {x : List T} {i : Nat} (h : A.length = i) : DM.rowAt (A ++ (x :: B)) (i : Int) = x := by
  subst h; simp [DM.rowAt]
theorem set_app {A B : List (List T)} {x v : List T} {i : Nat} (h : A.length = i) : (A ++ (x :: B)).set i v = A ++ (v :: B) := by
  subst h; simp
theorem tkm {n : Nat} {x : List T} (h : x.length = n) : (x.map DV.v).take n = x.map DV.v := by subst h; rw [← List.map_take, List.take_length]
theorem dr {n : Nat} {x : List T} (h : x.length = n) : x.drop n = [] := by subst h; simp
theorem tk {n : Nat} {x : List T} (h : x.length = n) : x.take n = x := by subst h; simp

structure Sw where
  (X1 X2 Y1 Y2 : List (List T))
def Sw.D (A M B : List (List T)) (s : Sw) : List (List T) := A ++ (s.Y1 ++ (s.X2 ++ (M ++ (s.X1 ++ (s.Y2 ++ B)))))

set_option maxRecDepth 20000 in
theorem t52 (D : List (List T)) (a b n : Nat) (objs : Obs) (r ver e : Nat) (g : T) (hob : objs r = some (.arr ver e 5 D)) (hrows : ∀ x ∈ D, rowOk 5 x) (h1 : a + n ≤ b) (h2 : b + n ≤ D.length) (h3 : D.length ≤ 140737488355328)
    {N : Nat} (hN : ∀ r, N ≤ r → objs r = none) : CallsS Try.prog 52 [.aref r ver, .v (ti a), .v (ti b), .v (ti n), .v g] objs ⟨True, .v (.tup []), setO objs r (.arr ver e 5 (swapAt D a b n))⟩ := by
  have hΓ : EnvOk Try.prog (envOf []) := EnvOk.nil
  have hfr : ∀ o k, N + 200 ≤ k → setO objs r o k = none := fun o k hk => setO_none hob (hN k (by omega))
  refine c52.okS hN (by simp) (initS_sat ?_)
  rw [setO_self hob]
  simp
  have hD : D = D.take a ++ (seg D a (a + n) ++ (seg D (a + n) b ++ (seg D b (b + n) ++ D.drop (b + n)))) := by
    rw [seg_drop D (by omega), seg_drop D (by omega), seg_drop D (by omega), List.take_append_drop]
  have lA : (D.take a).length = a := by simp; omega
  have lX : (seg D a (a + n)).length = n := by simp; omega
  have lM : (seg D (a + n) b).length = b - (a + n) := by simp; omega
  have lY : (seg D b (b + n)).length = n := by simp; omega
  have hL : D.length = a + n + (b - (a + n)) + n + (D.drop (b + n)).length := by simp; omega
  generalize hA : D.take a = A at *
  generalize hX : seg D a (a + n) = X at *
  generalize hM : seg D (a + n) b = M at *
  generalize hY : seg D b (b + n) = Y at *
  generalize hB : D.drop (b + n) = B at *
  refine SatD.regSeq hΓ follows [0, 1, 2, 3, 10] ?_
  simp [d52r0]
  refine SatD.block ?_ -- 0
  refine SatD.loop (fun y : Sw => ⟨DM.look [(0, .aref r ver), (1, .v (ti a)), (2, .v (ti b)), (3, .v (ti n)), (10, .v (ti y.X1.length))], setO objs r (.arr ver e 5 (y.D A M B)), N + 200, N, []⟩)
    (fun y => X = y.X1 ++ y.X2 ∧ Y = y.Y1 ++ y.Y2 ∧ y.X1.length = y.Y1.length) (fun y => y.X2.length) ⟨[], X, [], Y⟩ ?_ (by simp) (fun y hy => ?_)
  · have : Sw.D A M B ⟨[], X, [], Y⟩ = D := by simp only [Sw.D, List.nil_append]; exact hD.symm
    rw [this]
    exact Le.same (hfr _) (by simp)
  obtain ⟨X1, X2, Y1, Y2⟩ := y
  obtain ⟨e1, e2, e3⟩ := hy
  simp only at e1 e2 e3 ⊢
  have l1 : X1.length + X2.length = n := by rw [← lX, e1]; simp
  have l2 : Y1.length + Y2.length = n := by rw [← lY, e2]; simp
  refine SatD.seq ?_
  refine SatD.regSeq hΓ follows [0, 1, 2, 3, 10, 13] ?_
  simp [d52r1]
  refine SatD.cond rfl (fun h => ?_) (fun h => ?_)
  · simp at h
    match X2, Y2, l1, l2 with
    | [], _, l1, l2 => simp at l1; omega
    | _, [], l1, l2 => simp at l2; omega
    | x :: X2, y :: Y2, l1, l2 =>
    have hx : rowOk 5 x := hrows x (by rw [hD, e1]; simp)
    have hy : rowOk 5 y := hrows y (by rw [hD, e2]; simp)
    simp only [List.length_cons] at l1 l2
    obtain ⟨i, hi⟩ : ∃ i, X1.length = i := ⟨_, rfl⟩
    obtain ⟨p, hp⟩ : ∃ p, a + i = p := ⟨_, rfl⟩
    obtain ⟨q, hq⟩ : ∃ q, b + i = q := ⟨_, rfl⟩
    obtain ⟨Dc, hDc⟩ : ∃ Dc, Sw.D A M B ⟨X1, x :: X2, Y1, y :: Y2⟩ = Dc := ⟨_, rfl⟩
    have hl : Dc.length = D.length := by rw [← hDc, hL]; simp [Sw.D]; omega
    have hw1 : IntKind.i64.wrap ((a : Int) + i) = p := by rw [wrap_id (by omega)]; omega
    have hw2 : IntKind.i64.wrap ((b : Int) + i) = q := by rw [wrap_id (by omega)]; omega
    have g1 : DM.rowAt Dc p = x := by
      rw [← hDc, show Sw.D A M B ⟨X1, x :: X2, Y1, y :: Y2⟩ = (A ++ Y1) ++ (x :: (X2 ++ (M ++ (X1 ++ (y :: (Y2 ++ B)))))) by simp [Sw.D]]
      exact rowAt_app (by simp; omega)
    have g2 : DM.rowAt Dc q = y := by
      rw [← hDc, show Sw.D A M B ⟨X1, x :: X2, Y1, y :: Y2⟩ = (A ++ Y1 ++ x :: X2 ++ M ++ X1) ++ (y :: (Y2 ++ B)) by simp [Sw.D]]
      exact rowAt_app (by simp; omega)
    have g3 : (Dc.set p y).set q x = Sw.D A M B ⟨X1 ++ [x], X2, Y1 ++ [y], Y2⟩ := by
      rw [← hDc, show Sw.D A M B ⟨X1, x :: X2, Y1, y :: Y2⟩ = (A ++ Y1) ++ (x :: (X2 ++ (M ++ (X1 ++ (y :: (Y2 ++ B)))))) by simp [Sw.D]]
      rw [set_app (by simp; omega), show (A ++ Y1) ++ (y :: (X2 ++ (M ++ (X1 ++ (y :: (Y2 ++ B)))))) = (A ++ Y1 ++ y :: X2 ++ M ++ X1) ++ (y :: (Y2 ++ B)) by simp]
      rw [set_app (by simp; omega)]
      simp [Sw.D]
    have g4 : DM.rowAt (Dc.set p y) q = y := by
      rw [← hDc, show Sw.D A M B ⟨X1, x :: X2, Y1, y :: Y2⟩ = (A ++ Y1) ++ (x :: (X2 ++ (M ++ (X1 ++ (y :: (Y2 ++ B)))))) by simp [Sw.D]]
      rw [set_app (by simp; omega), show (A ++ Y1) ++ (y :: (X2 ++ (M ++ (X1 ++ (y :: (Y2 ++ B)))))) = (A ++ Y1 ++ y :: X2 ++ M ++ X1) ++ (y :: (Y2 ++ B)) by simp]
      exact rowAt_app (by simp; omega)
    refine SatD.skip ?_
    simp
    refine SatD.seq ?_
    refine SatD.block ?_ -- 1
    refine SatD.reg hΓ follows [0, 1, 2, 3, 10] ?_
    rw [hDc]
    simp [d52r2, hi, hw1, hw2, g1, g2, g4, hl, hx.1, hy.1, pureCells_map hx.2, pureCells_map hy.2, tk hx.1, tk hy.1, tkm hx.1, tkm hy.1, dr hx.1, dr hy.1]
    repeat refine ⟨by omega, ?_⟩
    rw [g3]
    refine SatD.reg hΓ follows [0, 1, 2, 3, 10] ?_
    simp [d52r3]
    refine ⟨⟨X1 ++ [x], X2, Y1 ++ [y], Y2⟩, ?_, ?_, ?_⟩
    · refine Le.same (hfr _) ?_
      simp
      rw [wrap_id (by omega)]; omega
    · simp [e1, e2, ← e3, hi]
    · simp
  · simp at h
    refine SatD.exit ?_
    have hX2 : X2 = [] := List.eq_nil_of_length_eq_zero (by omega)
    have hY2 : Y2 = [] := List.eq_nil_of_length_eq_zero (by omega)
    subst hX2 hY2
    simp at e1 e2
    subst e1 e2
    have : swapAt D a b n = Sw.D A M B ⟨X, [], Y, []⟩ := by
      rw [hD, swapAt_app A X M Y B lA lX (by omega) lY]
      simp [Sw.D]
    simp [d52res, this]
end
end Go.Proofs
namespace Go.Proofs
open Go.DM Go.DM.Srt
set_option linter.unusedSimpArgs false
set_option linter.unusedVariables false

def k52 : List DV → Obs → SRes
  | [.aref r ver, .v (.int .i64 a), .v (.int .i64 b), .v (.int .i64 n), .v g], objs => match objs r with
    | some (.arr ver' e sz D) => ⟨ver = ver' ∧ sz = 5 ∧ (∀ x ∈ D, rowOk 5 x) ∧ 0 ≤ a ∧ 0 ≤ n ∧ a + n ≤ b ∧ b + n ≤ D.length ∧ D.length ≤ 140737488355328, .v (.tup []), setO objs r (.arr ver e 5 (swapAt D a.toNat b.toNat n.toNat))⟩
    | _ => ⟨False, .undef, objs⟩
  | _, objs => ⟨False, .undef, objs⟩
def Γ52 : Env := envOf [(52, specS k52)]
theorem ok52 : EnvOk Try.prog Γ52 := by
  refine EnvOk.consS EnvOk.nil ?_
  intro args objs h
  unfold k52 at h ⊢
  split at h
  · split at h
    · rename_i a b n g _ ver' e sz D hob
      obtain ⟨rfl, rfl, h1, h2, h3, h4, h5, h6⟩ := h
      have ea : a = (a.toNat : Int) := by omega
      have eb : b = (b.toNat : Int) := by omega
      have en : n = (n.toNat : Int) := by omega
      refine ⟨fun N hN => ?_, fun k hk => setO_none hob hk⟩
      have := t52 D a.toNat b.toNat n.toNat objs _ _ e g hob h1 (by omega) (by omega) h6 hN
      rw [← ea, ← eb, ← en] at this
      simp only [hob]
      exact this.of rfl rfl
    · exact h.elim
  · exact h.elim

structure Ro where
  (A P Q B : List (List T))
def Ro.D (s : Ro) : List (List T) := s.A ++ (s.P ++ (s.Q ++ s.B))

set_option maxRecDepth 20000 in
theorem t51 (D : List (List T)) (a m b : Nat) (objs : Obs) (r ver e : Nat) (g : T) (hob : objs r = some (.arr ver e 5 D)) (hrows : ∀ x ∈ D, rowOk 5 x) (h1 : a < m) (h2 : m < b) (h2 : b ≤ D.length) (h3 : D.length ≤ 140737488355328)
    {N : Nat} (hN : ∀ r, N ≤ r → objs r = none) : CallsS Try.prog 51 [.aref r ver, .v (ti a), .v (ti m), .v (ti b), .v g] objs ⟨True, .v (.tup []), setO objs r (.arr ver e 5 (rotAt D a m b))⟩ := by
  have hΓ := ok52
  have hfr : ∀ o k, N + 200 ≤ k → setO objs r o k = none := fun o k hk => setO_none hob (hN k (by omega))
  refine c51.okS hN (by simp) (initS_sat ?_)
  rw [setO_self hob]
  simp
  have w1 : IntKind.i64.wrap ((m : Int) - a) = ((m - a : Nat) : Int) := by rw [wrap_id (by omega)]; omega
  have w2 : IntKind.i64.wrap ((b : Int) - m) = ((b - m : Nat) : Int) := by rw [wrap_id (by omega)]; omega
  refine SatD.regSeq hΓ follows [0, 2, 3, 4, 10] ?_
  simp [d51r0, w1]
  refine SatD.regSeq hΓ follows [0, 2, 4, 10, 11] ?_
  simp [d51r1, w2]
  refine SatD.seq ?_
  refine SatD.block ?_ -- 0
  have hD := split4 D (a := a) (m := m) (b := b) (by omega) (by omega)
  have lA : (D.take a).length = a := by simp; omega
  have lP : (seg D a m).length = m - a := by simp; omega
  have lQ : (seg D m b).length = b - m := by simp; omega
  have hF : rotAt D a m b = D.take a ++ (seg D m b ++ (seg D a m ++ D.drop b)) := rfl
  refine SatD.loop (fun y : Ro => ⟨DM.look [(0, .aref r ver), (2, .v (ti m)), (4, .v g), (10, .v (ti y.P.length)), (11, .v (ti y.Q.length))], setO objs r (.arr ver e 5 y.D), N + 200, N, []⟩)
    (fun y => y.A.length + y.P.length = m ∧ 0 < y.P.length ∧ 0 < y.Q.length ∧ y.A ++ (y.Q ++ (y.P ++ y.B)) = rotAt D a m b ∧ y.D.length = D.length ∧ ∀ x ∈ y.D, x ∈ D) (fun y => y.P.length + y.Q.length) ⟨D.take a, seg D a m, seg D m b, D.drop b⟩ ?_ ?_ (fun y hy => ?_)
  · simp only [Ro.D, ← hD]
    refine Le.same (hfr _) ?_
    simp
    omega
  · simp only [lA, lP, lQ, Ro.D, ← hD]
    exact ⟨by omega, by omega, by omega, by rw [hF], trivial, fun _ h => h⟩
  obtain ⟨A, P, Q, B⟩ := y
  obtain ⟨e1, e2, e3, e4, e5, e6⟩ := hy
  simp only at e1 e2 e3 e4 e5 e6 ⊢
  obtain ⟨Dc, hDc⟩ : ∃ Dc, Ro.D ⟨A, P, Q, B⟩ = Dc := ⟨_, rfl⟩
  obtain ⟨i, hi⟩ : ∃ i, P.length = i := ⟨_, rfl⟩
  obtain ⟨j, hj⟩ : ∃ j, Q.length = j := ⟨_, rfl⟩
  rw [hDc] at e5 e6
  have e5' : A.length + (i + (j + B.length)) = D.length := by rw [← e5, ← hDc]; simp [Ro.D, hi, hj]
  have hrc : ∀ x ∈ Dc, rowOk 5 x := fun x hx => hrows x (e6 x hx)
  have w3 : IntKind.i64.wrap ((m : Int) - i) = ((m - i : Nat) : Int) := by rw [wrap_id (by omega)]; omega
  refine SatD.seq ?_
  refine SatD.regSeq hΓ follows [0, 2, 4, 10, 11, 20] ?_
  simp [d51r2, hi, hj, hDc]
  refine SatD.cond rfl (fun h => ?_) (fun h => ?_)
  · simp at h
    refine SatD.skip ?_
    simp
    refine SatD.block ?_ -- 1
    refine SatD.regSeq hΓ follows [0, 2, 4, 10, 11, 23] ?_
    simp [d51r3]
    refine SatD.cond rfl (fun h4 => ?_) (fun h4 => ?_)
    · simp at h4
      refine SatD.regASeq hΓ follows (rs := d51r4S) (.inr ⟨_, rfl⟩) (by kernel_rfl) [0, 2, 4, 10, 11] ?_
      simp [d51r4S, Γ52, k52, w3]
      refine ⟨⟨hrc, by omega, by omega, by omega⟩, ?_⟩
      obtain ⟨P1, P2, rfl, lP1⟩ : ∃ P1 P2, P = P1 ++ P2 ∧ P1.length = j := ⟨P.take j, P.drop j, (List.take_append_drop j P).symm, by simp; omega⟩
      simp only [List.length_append] at hi
      have hsw : swapAt Dc (m - i) m j = Ro.D ⟨A ++ Q, P2, P1, B⟩ := by
        rw [← hDc]
        simp only [Ro.D, List.append_assoc]
        exact swapAt_app A P1 P2 Q B (by simp only [List.length_append] at e1; omega) lP1 (by simp only [List.length_append] at e1; omega) hj
      rw [hsw]
      have w4 : IntKind.i64.wrap ((i : Int) - j) = ((i - j : Nat) : Int) := by rw [wrap_id (by omega)]; omega
      refine SatD.reg hΓ follows [0, 2, 4, 10, 11] ?_
      simp [d51r5, w4]
      refine ⟨⟨A ++ Q, P2, P1, B⟩, ?_, ⟨?_, ?_, ?_, ?_, ?_, ?_⟩, ?_⟩
      · refine Le.same (hfr _) ?_
        simp; omega
      · simp only [List.length_append] at e1 ⊢; omega
      · simp only; omega
      · simp only; omega
      · rw [← e4]; simp
      · rw [← e5, ← hDc]; simp [Ro.D]; omega
      · intro x hx
        refine e6 x ?_
        rw [← hDc]
        simp only [Ro.D, List.mem_append] at hx ⊢
        rcases hx with (h | h) | h | h | h <;> simp [h]
      · simp only; omega
    · simp at h4
      have w4 : IntKind.i64.wrap (IntKind.i64.wrap ((m : Int) + j) - i) = ((m + j - i : Nat) : Int) := by rw [wrap_id (x := (m : Int) + j) (by omega), wrap_id (by omega)]; omega
      have w5 : IntKind.i64.wrap ((j : Int) - i) = ((j - i : Nat) : Int) := by rw [wrap_id (by omega)]; omega
      refine SatD.regASeq hΓ follows (rs := d51r6S) (.inr ⟨_, rfl⟩) (by kernel_rfl) [0, 2, 4, 10, 11] ?_
      simp [d51r6S, Γ52, k52, w3, w4]
      refine ⟨⟨hrc, by omega, by omega, by omega⟩, ?_⟩
      obtain ⟨Q1, Q2, rfl, lQ2⟩ : ∃ Q1 Q2, Q = Q1 ++ Q2 ∧ Q2.length = i := ⟨Q.take (j - i), Q.drop (j - i), (List.take_append_drop _ Q).symm, by simp; omega⟩
      simp only [List.length_append] at hj
      have hsw : swapAt Dc (m - i) (m + j - i) i = Ro.D ⟨A, Q2, Q1, P ++ B⟩ := by
        rw [← hDc]
        simp only [Ro.D, List.append_assoc]
        exact swapAt_app A P Q1 Q2 B (by omega) hi (by omega) lQ2
      rw [hsw]
      refine SatD.reg hΓ follows [0, 2, 4, 10, 11] ?_
      simp [d51r7, w5]
      refine ⟨⟨A, Q2, Q1, P ++ B⟩, ?_, ⟨?_, ?_, ?_, ?_, ?_, ?_⟩, ?_⟩
      · refine Le.same (hfr _) ?_
        simp; omega
      · simp only; omega
      · simp only; omega
      · simp only; omega
      · rw [← e4]; simp
      · rw [← e5, ← hDc]; simp [Ro.D]; omega
      · intro x hx
        refine e6 x ?_
        rw [← hDc]
        simp only [Ro.D, List.mem_append] at hx ⊢
        rcases hx with h | h | h | h | h <;> simp [h]
      · simp only; omega
  · simp at h
    refine SatD.exit ?_
    simp
    refine SatD.regA hΓ follows (rs := d51r8S) (.inr ⟨_, rfl⟩) (by kernel_rfl) [] ?_
    simp [d51r8S, Γ52, k52, w3]
    refine ⟨⟨hrc, by omega, by omega, by omega⟩, ?_⟩
    have hsw : swapAt Dc (m - i) m i = rotAt D a m b := by
      rw [← hDc, ← e4]
      simp only [Ro.D]
      exact swapAt_app A P [] Q B (by omega) hi (by simp; omega) (by omega)
    simp [d51res, hsw]
end Go.Proofs
namespace Go.Proofs
open Go.DM Go.DM.Srt
set_option linter.unusedSimpArgs false
set_option linter.unusedVariables false

def k51 : List DV → Obs → SRes
  | [.aref r ver, .v (.int .i64 a), .v (.int .i64 m), .v (.int .i64 b), .v g], objs => match objs r with
    | some (.arr ver' e sz D) => ⟨ver = ver' ∧ sz = 5 ∧ (∀ x ∈ D, rowOk 5 x) ∧ 0 ≤ a ∧ a < m ∧ m < b ∧ b ≤ D.length ∧ D.length ≤ 140737488355328, .v (.tup []), setO objs r (.arr ver e 5 (rotAt D a.toNat m.toNat b.toNat))⟩
    | _ => ⟨False, .undef, objs⟩
  | _, objs => ⟨False, .undef, objs⟩
def k50 (good : List T → Prop) (cmpF : List T → List T → Int) (N : Nat) : List DV → Obs → SRes
  | [.aref r ver, .v (.int .i64 a), .v (.int .i64 m), .v (.int .i64 b), .v (.fn (.func c) caps)], objs => match objs r with
    | some (.arr ver' e sz D) => ⟨ver = ver' ∧ sz = 5 ∧ c = 36 ∧ caps = [] ∧ (∀ x ∈ D, good x) ∧ 0 ≤ a ∧ a < m ∧ m < b ∧ b ≤ D.length ∧ D.length ≤ 140737488355328 ∧ b - a < N ∧ Sorted (ltF cmpF) (seg D a.toNat m.toNat) ∧ Sorted (ltF cmpF) (seg D m.toNat b.toNat),
        .v (.tup []), setO objs r (.arr ver e 5 (sortAt (ltF cmpF) D a.toNat b.toNat))⟩
    | _ => ⟨False, .undef, objs⟩
  | _, objs => ⟨False, .undef, objs⟩
def Γ50 (good : List T → Prop) (cmpF : List T → List T → Int) (N : Nat) : Env := envOf [(50, specS (k50 good cmpF N)), (51, specS k51), (36, cmpSpec good cmpF)]

theorem ok51 {good : List T → Prop} {cmpF : List T → List T → Int} (hc : CmpOk good cmpF 36 5) : EnvOk Try.prog (envOf [(51, specS k51), (36, cmpSpec good cmpF)]) := by
  refine EnvOk.consS (cmp_env hc) ?_
  intro args objs h
  unfold k51 at h ⊢
  split at h
  · split at h
    · rename_i a m b g _ ver' e sz D hob
      obtain ⟨rfl, rfl, h1, h2, h3, h4, h5, h6⟩ := h
      have ea : a = (a.toNat : Int) := by omega
      have eb : b = (b.toNat : Int) := by omega
      have en : m = (m.toNat : Int) := by omega
      refine ⟨fun N hN => ?_, fun k hk => setO_none hob hk⟩
      have := t51 D a.toNat m.toNat b.toNat objs _ _ e g hob h1 (by omega) (by omega) (by omega) h6 hN
      rw [← ea, ← eb, ← en] at this
      simp only [hob]
      exact this.of rfl rfl
    · exact h.elim
  · exact h.elim

theorem rowAt_nat (D : List (List T)) (k : Nat) : DM.rowAt D (k : Int) = D.getD k default := by simp [DM.rowAt]; rfl
theorem half {i j : Nat} (h : i + j ≤ 2 * 140737488355328) : IntKind.i64.wrap (IntKind.u64.wrap (IntKind.i64.wrap ((i : Int) + j)) / 2 ^ min 1 IntKind.u64.bits) = (((i + j) / 2 : Nat) : Int) := by
  have e : (2 : Int) ^ min 1 IntKind.u64.bits = 2 := rfl
  rw [e, wrap_id (x := (i : Int) + j) (by omega)]
  have : IntKind.u64.wrap ((i : Int) + j) = (i : Int) + j := by simp [IntKind.wrap, IntKind.bits, IntKind.signed]; omega
  rw [this, wrap_id (by omega)]
  omega
theorem adj {A B : List (List T)} {x y : List T} {k : Nat} (h : A.length = k) {k' : Nat} (hk : k' = k + 1) : DM.rowAt (A ++ (x :: y :: B)) k = x ∧ DM.rowAt (A ++ (x :: y :: B)) k' = y ∧ DM.rowAt ((A ++ (x :: y :: B)).set k y) k' = y ∧
    ((A ++ (x :: y :: B)).set k y).set k' x = A ++ (y :: x :: B) ∧ DM.rowAt ((A ++ (x :: y :: B)).set k' x) k = x ∧ ((A ++ (x :: y :: B)).set k' x).set k y = A ++ (y :: x :: B) := by
  subst h hk
  refine ⟨rowAt_app rfl, ?_, ?_, ?_, ?_, ?_⟩
  · rw [show A ++ (x :: y :: B) = (A ++ [x]) ++ (y :: B) by simp]; exact rowAt_app (by simp)
  · rw [set_app rfl, show A ++ (y :: y :: B) = (A ++ [y]) ++ (y :: B) by simp]; exact rowAt_app (by simp)
  · rw [set_app rfl, show A ++ (y :: y :: B) = (A ++ [y]) ++ (y :: B) by simp, set_app (by simp)]; simp
  · rw [show A ++ (x :: y :: B) = (A ++ [x]) ++ (y :: B) by simp, set_app (by simp), show (A ++ [x]) ++ (x :: B) = A ++ (x :: x :: B) by simp]; exact rowAt_app rfl
  · rw [show A ++ (x :: y :: B) = (A ++ [x]) ++ (y :: B) by simp, set_app (by simp), show (A ++ [x]) ++ (x :: B) = A ++ (x :: x :: B) by simp, set_app rfl]
theorem rotAt_triv {D : List (List T)} {s m e : Nat} (h1 : s ≤ m) (h2 : m ≤ e) (h : ¬ (s < m ∧ m < e)) : rotAt D s m e = D := by
  unfold rotAt
  by_cases h' : s = m
  · subst h'; rw [seg_self, List.nil_append, seg_drop D h2, List.take_append_drop]
  · have : m = e := by omega
    subst this; rw [seg_self, List.nil_append, seg_drop D h1, List.take_append_drop]
theorem sorted_seg {lt : List T → List T → Bool} {D : List (List T)} {i j : Nat} (hj : j ≤ D.length) (h : Sorted lt (seg D i j)) : ∀ p q, i ≤ p → p < q → q < j → lt (D.getD q default) (D.getD p default) = false := by
  intro p q h1 h2 h3
  unfold Sorted at h
  rw [List.pairwise_iff_getElem] at h
  have hl : (seg D i j).length = j - i := by simp; omega
  have := h (p - i) (q - i) (by omega) (by omega) (by omega)
  unfold seg at this
  rw [List.getElem_take, List.getElem_take, List.getElem_drop, List.getElem_drop] at this
  rw [List.getD_eq_getElem?_getD, List.getD_eq_getElem?_getD, List.getElem?_eq_getElem (by omega), List.getElem?_eq_getElem (by omega)]
  simpa only [Option.getD_some, show i + (p - i) = p by omega, show i + (q - i) = q by omega] using this

structure IJ where
  (i j : Nat)
structure PQ where
  (P Q : List (List T))

set_option maxRecDepth 20000 in
set_option maxHeartbeats 4000000 in
theorem t50s {good : List T → Prop} {cmpF : List T → List T → Int} (hc : CmpOk good cmpF 36 5) (hw : SWO (ltF cmpF)) (F : Nat) (hΓ : EnvOk Try.prog (Γ50 good cmpF F))
    (D : List (List T)) (a m b : Nat) (objs : Obs) (r ver e : Nat) (hob : objs r = some (.arr ver e 5 D)) (hrows : ∀ x ∈ D, good x) (h1 : a < m) (h2 : m < b) (h3 : b ≤ D.length) (h4 : D.length ≤ 140737488355328) (hF : b - a < F + 1)
    (sL : Sorted (ltF cmpF) (seg D a m)) (sR : Sorted (ltF cmpF) (seg D m b))
    {N : Nat} (hN : ∀ r, N ≤ r → objs r = none) : CallsS Try.prog 50 [.aref r ver, .v (ti a), .v (ti m), .v (ti b), .v (.fn (.func 36) [])] objs ⟨True, .v (.tup []), setO objs r (.arr ver e 5 (sortAt (ltF cmpF) D a b))⟩ := by
  have hfr : ∀ o k, N + 1000 ≤ k → setO objs r o k = none := fun o k hk => setO_none hob (hN k (by omega))
  have gl := sorted_seg (by omega) sL
  have gr := sorted_seg (by omega) sR
  have hgood : ∀ k, k < D.length → good (D.getD k default) := fun k hk => hrows _ (by rw [List.getD_eq_getElem?_getD, List.getElem?_eq_getElem hk]; simp)
  have hmem : ∀ i j x, x ∈ seg D i j → ∃ k, i ≤ k ∧ k < j ∧ k < D.length ∧ D.getD k default = x := fun i j x h => mem_seg.1 h
  have hrow := rowAt_nat D
  obtain ⟨lt, hlt, hlt2⟩ : ∃ lt : List T → List T → Bool, ltF cmpF = lt ∧ ∀ x y, decide (cmpF x y < 0) = lt x y := ⟨_, rfl, fun _ _ => rfl⟩
  rw [hlt] at hw sL sR gl gr ⊢
  obtain ⟨g, hg⟩ : ∃ g : Nat → List T, ∀ k : Nat, D.getD k default = g k := ⟨_, fun _ => rfl⟩
  simp only [hg] at gl gr hgood hmem hrow
  have hgr := fun k hk => hc.row _ (hgood k hk)
  refine c50.okS hN (by simp) (initS_sat ?_)
  rw [setO_self hob]
  simp
  have w1 : IntKind.i64.wrap ((m : Int) - a) = ((m - a : Nat) : Int) := by rw [wrap_id (by omega)]; omega
  have w2 : IntKind.i64.wrap ((b : Int) - m) = ((b - m : Nat) : Int) := by rw [wrap_id (by omega)]; omega
  refine SatD.seq ?_
  refine SatD.regSeq hΓ follows [0, 1, 2, 3, 4, 28] ?_
  simp [d50r0, w1]
  refine SatD.cond rfl (fun c1 => ?_) (fun c1 => ?_)
  · simp at c1
    refine SatD.regSeq hΓ follows [0, 1, 3, 4, 10] ?_
    simp [d50r1]
    refine SatD.regSeq hΓ follows [0, 1, 4, 10, 11] ?_
    simp [d50r2]
    refine SatD.seq ?_
    refine SatD.block ?_ -- 0
    refine SatD.loop (fun y : IJ => ⟨DM.look [(0, .aref r ver), (1, .v (ti a)), (4, .v (.fn (.func 36) [])), (10, .v (ti y.i)), (11, .v (ti y.j))], setO objs r (.arr ver e 5 D), N + 1000, N, []⟩)
      (fun y => m ≤ y.i ∧ y.i ≤ y.j ∧ y.j ≤ b ∧ (∀ k, m ≤ k → k < y.i → lt (g k) (g a) = true) ∧ ∀ k, y.j ≤ k → k < b → lt (g k) (g a) = false) (fun y => y.j - y.i) ⟨m, b⟩ ?_ ?_ (fun y hy => ?_)
    · exact Le.same (hfr _) (by simp)
    · exact ⟨by simp, by simp; omega, by simp, fun k k1 k2 => by simp at k2; omega, fun k k1 k2 => by simp at k1; omega⟩
    obtain ⟨i, j⟩ := y
    obtain ⟨p1, p2, p3, p4, p5⟩ := hy
    simp only at p1 p2 p3 p4 p5 ⊢
    refine SatD.seq ?_
    refine SatD.regSeq hΓ follows [0, 1, 4, 10, 11, 33] ?_
    simp [d50r3]
    refine SatD.cond rfl (fun h => ?_) (fun h => ?_)
    · simp at h
      refine SatD.skip ?_
      simp
      refine SatD.block ?_ -- 1
      refine SatD.regSeq hΓ follows [0, 1, 4, 10, 11, 12] ?_
      obtain ⟨c, hcc⟩ : ∃ c, (i + j) / 2 = c := ⟨_, rfl⟩
      have hh := half (i := i) (j := j) (by omega)
      rw [hcc] at hh
      simp [d50r4, hh]
      have hgc := hgr c (by omega)
      have hga := hgr a (by omega)
      refine SatD.regSeq hΓ follows [0, 1, 4, 10, 11, 12, 50] ?_
      simp [d50r5, hrow, hgc.1, hga.1, tk hgc.1, tk hga.1, Γ50, cmpSpec, hlt2, hgood c (by omega), hgood a (by omega)]
      refine ⟨by omega, by omega, ⟨_, _, ⟨rfl, rfl⟩, hgood c (by omega), hgood a (by omega)⟩, ?_⟩
      refine SatD.cond rfl (fun h5 => ?_) (fun h5 => ?_)
      · refine SatD.reg hΓ follows [0, 1, 4, 10, 11] ?_
        simp [d50r6]
        refine ⟨⟨c + 1, j⟩, Le.same (hfr _) ?_, ⟨by simp only; omega, by simp only; omega, p3, fun k k1 k2 => ?_, p5⟩, by simp only; omega⟩
        · simp
          rw [wrap_id (by omega)]
        · simp only at k2
          cases hkc : lt (g k) (g a) with
          | true => rfl
          | false =>
            by_cases hk : k = c
            · subst hk; rw [h5] at hkc; cases hkc
            · have := hw.ntrans _ _ _ (gr k c k1 (by omega) (by omega)) hkc
              rw [h5] at this; cases this
      · refine SatD.reg hΓ follows [0, 1, 4, 10, 11] ?_
        simp [d50r7]
        refine ⟨⟨i, c⟩, Le.same (hfr _) ?_, ⟨p1, by simp only; omega, by simp only; omega, p4, fun k k1 k2 => ?_⟩, by simp only; omega⟩
        · simp
        · simp only at k1
          by_cases hk : k = c
          · subst hk; exact h5
          · exact hw.ntrans _ _ _ (gr c k (by omega) (by omega) k2) h5
    · simp at h
      have hij : i = j := by omega
      subst hij
      refine SatD.exit ?_
      simp
      have hD : D = D.take a ++ (seg D a m ++ (seg D m i ++ (seg D i b ++ D.drop b))) := by
        rw [seg_drop D (by omega), seg_drop D (by omega), seg_drop D (by omega), List.take_append_drop]
      have lA : (D.take a).length = a := by simp; omega
      have lX : (seg D a m).length = 1 := by simp; omega
      have l1 : (seg D m i).length = i - m := by simp; omega
      have l2 : (seg D i b).length = b - i := by simp; omega
      have lB : (D.drop b).length = D.length - b := by simp
      obtain ⟨x, hX⟩ := List.length_eq_one_iff.1 lX
      have hxg : x = g a := by
        obtain ⟨k, k1, k2, k3, k4⟩ := hmem a m x (by rw [hX]; simp)
        rw [← k4, show k = a by omega]
      have hR1 : ∀ z ∈ seg D m i, lt z x = true := by
        intro z hz
        obtain ⟨k, k1, k2, k3, k4⟩ := hmem _ _ z hz
        rw [← k4, hxg]; exact p4 k k1 k2
      have hR2 : ∀ z ∈ seg D i b, lt z x = false := by
        intro z hz
        obtain ⟨k, k1, k2, k3, k4⟩ := hmem _ _ z hz
        rw [← k4, hxg]; exact p5 k k1 k2
      rw [seg_append D p1 p3] at sR
      have hins := ins_front hw sR hR1 hR2
      rw [hX] at hD
      generalize D.take a = A at *
      generalize seg D m i = R1 at *
      generalize seg D i b = R2 at *
      generalize D.drop b = B at *
      have hfin : sortAt lt D a b = A ++ (R1 ++ (x :: (R2 ++ B))) := by
        rw [hD, show A ++ ([x] ++ (R1 ++ (R2 ++ B))) = A ++ ((x :: (R1 ++ R2)) ++ B) by simp, sortAt_app lt A _ B lA (by simp; omega), hins]
        simp
      have hall : ∀ z, (z = x ∨ z ∈ R1) → rowOk 5 z := by
        intro z hz
        refine hc.row z (hrows z ?_)
        rw [hD]
        rcases hz with rfl | hz <;> simp [*]
      have hxo := hall x (.inl rfl)
      refine SatD.seq ?_
      refine SatD.regSeq hΓ follows [0, 10, 13] ?_
      simp [d50r8]
      refine SatD.block ?_ -- 2
      refine SatD.loop (fun y : PQ => ⟨DM.look [(0, .aref r ver), (10, .v (ti i)), (13, .v (ti ((a + y.P.length : Nat) : Int)))], setO objs r (.arr ver e 5 (A ++ (y.P ++ (x :: (y.Q ++ (R2 ++ B)))))), N + 1000, N, []⟩)
        (fun y => R1 = y.P ++ y.Q) (fun y => y.Q.length) ⟨[], R1⟩ ?_ (by simp) (fun y hy => ?_)
      · have e1 : A ++ ([] ++ (x :: (R1 ++ (R2 ++ B)))) = D := by rw [hD]; simp
        simp only [e1]
        refine Le.same (hfr _) ?_
        simp
      obtain ⟨P, Q⟩ := y
      simp only at hy ⊢
      have lPQ : P.length + Q.length = i - m := by rw [← l1, hy]; simp
      obtain ⟨k, hk⟩ : ∃ k, a + P.length = k := ⟨_, rfl⟩
      have w3 : IntKind.i64.wrap ((i : Int) - 1) = ((i - 1 : Nat) : Int) := by rw [wrap_id (by omega)]; omega
      rw [hk]
      refine SatD.seq ?_
      refine SatD.regSeq hΓ follows [0, 10, 13, 58] ?_
      simp [d50r9, w3]
      refine SatD.cond rfl (fun h => ?_) (fun h => ?_)
      · simp at h
        match Q, lPQ with
        | [], lPQ => simp at lPQ; omega
        | q :: Q, lPQ =>
        simp only [List.length_cons] at lPQ
        have hqo := hall q (.inr (by rw [hy]; simp))
        obtain ⟨k', hk'⟩ : ∃ k', k' = k + 1 := ⟨_, rfl⟩
        have w4 : IntKind.i64.wrap ((k : Int) + 1) = (k' : Int) := by rw [wrap_id (by omega)]; omega
        obtain ⟨q1, q2, q3, q4, _, _⟩ := adj (A := A ++ P) (B := Q ++ (R2 ++ B)) (x := x) (y := q) (k := k) (by simp; omega) hk'
        obtain ⟨Dc, hDc⟩ : ∃ Dc, (A ++ P) ++ (x :: q :: (Q ++ (R2 ++ B))) = Dc := ⟨_, rfl⟩
        rw [hDc] at q1 q2 q3 q4
        have hl : Dc.length = D.length := by rw [← hDc, hD, hy]; simp; omega
        refine SatD.skip ?_
        simp
        refine SatD.seq ?_
        refine SatD.block ?_ -- 3
        rw [show A ++ (P ++ x :: q :: (Q ++ (R2 ++ B))) = Dc by rw [← hDc]; simp]
        refine SatD.reg hΓ follows [0, 10, 13] ?_
        simp [d50r10, w4, q1, q2, q3, q4, hl, hxo.1, hqo.1, tk hxo.1, tk hqo.1, tkm hxo.1, tkm hqo.1, dr hxo.1, dr hqo.1, pureCells_map hxo.2, pureCells_map hqo.2]
        repeat refine ⟨by omega, ?_⟩
        refine SatD.reg hΓ follows [0, 10, 13] ?_
        simp [d50r11, w4]
        refine ⟨⟨P ++ [q], Q⟩, ?_, ?_, ?_⟩
        · rw [show A ++ ((P ++ [q]) ++ x :: (Q ++ (R2 ++ B))) = A ++ (P ++ q :: x :: (Q ++ (R2 ++ B))) by simp]
          refine Le.same (hfr _) ?_
          simp; omega
        · simp [hy]
        · simp
      · simp at h
        have hQ : Q = [] := List.eq_nil_of_length_eq_zero (by omega)
        subst hQ
        rw [List.append_nil] at hy
        subst hy
        refine SatD.exit ?_
        simp
        refine SatD.ret ?_
        simp [d50res, hfin]
  simp at c1
  refine SatD.skip ?_
  simp
  refine SatD.seq ?_
  refine SatD.regSeq hΓ follows [0, 1, 2, 3, 4, 80] ?_
  simp [d50r12, w2]
  refine SatD.cond rfl (fun c2 => ?_) (fun c2 => ?_)
  · simp at c2
    refine SatD.regSeq hΓ follows [0, 2, 4, 14] ?_
    simp [d50r13]
    refine SatD.regSeq hΓ follows [0, 2, 4, 14, 15] ?_
    simp [d50r14]
    refine SatD.seq ?_
    refine SatD.block ?_ -- 4
    refine SatD.loop (fun y : IJ => ⟨DM.look [(0, .aref r ver), (2, .v (ti m)), (4, .v (.fn (.func 36) [])), (14, .v (ti y.i)), (15, .v (ti y.j))], setO objs r (.arr ver e 5 D), N + 1000, N, []⟩)
      (fun y => a ≤ y.i ∧ y.i ≤ y.j ∧ y.j ≤ m ∧ (∀ k, a ≤ k → k < y.i → lt (g m) (g k) = false) ∧ ∀ k, y.j ≤ k → k < m → lt (g m) (g k) = true) (fun y => y.j - y.i) ⟨a, m⟩ ?_ ?_ (fun y hy => ?_)
    · exact Le.same (hfr _) (by simp)
    · exact ⟨by simp, by simp; omega, by simp, fun k k1 k2 => by simp at k2; omega, fun k k1 k2 => by simp at k1; omega⟩
    obtain ⟨i, j⟩ := y
    obtain ⟨p1, p2, p3, p4, p5⟩ := hy
    simp only at p1 p2 p3 p4 p5 ⊢
    refine SatD.seq ?_
    refine SatD.regSeq hΓ follows [0, 2, 4, 14, 15, 85] ?_
    simp [d50r15]
    refine SatD.cond rfl (fun h => ?_) (fun h => ?_)
    · simp at h
      refine SatD.skip ?_
      simp
      refine SatD.block ?_ -- 5
      refine SatD.regSeq hΓ follows [0, 2, 4, 14, 15, 16] ?_
      obtain ⟨c, hcc⟩ : ∃ c, (i + j) / 2 = c := ⟨_, rfl⟩
      have hh := half (i := i) (j := j) (by omega)
      rw [hcc] at hh
      simp [d50r16, hh]
      have hgc := hgr c (by omega)
      have hgm := hgr m (by omega)
      refine SatD.regSeq hΓ follows [0, 2, 4, 14, 15, 16, 103] ?_
      simp [d50r17, hrow, hgc.1, hgm.1, tk hgc.1, tk hgm.1, Γ50, cmpSpec, hlt2, hgood c (by omega), hgood m (by omega)]
      refine ⟨by omega, by omega, ⟨_, _, ⟨rfl, rfl⟩, hgood m (by omega), hgood c (by omega)⟩, ?_⟩
      refine SatD.cond rfl (fun h5 => ?_) (fun h5 => ?_)
      · simp only [Bool.not_eq_true'] at h5
        refine SatD.reg hΓ follows [0, 2, 4, 14, 15] ?_
        simp [d50r18]
        refine ⟨⟨c + 1, j⟩, Le.same (hfr _) ?_, ⟨by simp only; omega, by simp only; omega, p3, fun k k1 k2 => ?_, p5⟩, by simp only; omega⟩
        · simp
          rw [wrap_id (by omega)]
        · simp only at k2
          by_cases hk : k = c
          · subst hk; exact h5
          · exact hw.ntrans _ _ _ h5 (gl k c k1 (by omega) (by omega))
      · simp only [Bool.not_eq_false'] at h5
        refine SatD.reg hΓ follows [0, 2, 4, 14, 15] ?_
        simp [d50r19]
        refine ⟨⟨i, c⟩, Le.same (hfr _) ?_, ⟨p1, by simp only; omega, by simp only; omega, p4, fun k k1 k2 => ?_⟩, by simp only; omega⟩
        · simp
        · simp only at k1
          cases hkc : lt (g m) (g k) with
          | true => rfl
          | false =>
            by_cases hk : k = c
            · subst hk; rw [h5] at hkc; cases hkc
            · have := hw.ntrans _ _ _ hkc (gl c k (by omega) (by omega) k2)
              rw [h5] at this; cases this
    · simp at h
      have hij : i = j := by omega
      subst hij
      refine SatD.exit ?_
      simp
      have hD : D = D.take a ++ (seg D a i ++ (seg D i m ++ (seg D m b ++ D.drop b))) := by
        rw [seg_drop D (by omega), seg_drop D (by omega), seg_drop D (by omega), List.take_append_drop]
      have lA : (D.take a).length = a := by simp; omega
      have lX : (seg D m b).length = 1 := by simp; omega
      have l1 : (seg D a i).length = i - a := by simp; omega
      have l2 : (seg D i m).length = m - i := by simp; omega
      have lB : (D.drop b).length = D.length - b := by simp
      obtain ⟨x, hX⟩ := List.length_eq_one_iff.1 lX
      have hxg : x = g m := by
        obtain ⟨k, k1, k2, k3, k4⟩ := hmem m b x (by rw [hX]; simp)
        rw [← k4, show k = m by omega]
      have hR1 : ∀ z ∈ seg D a i, lt x z = false := by
        intro z hz
        obtain ⟨k, k1, k2, k3, k4⟩ := hmem _ _ z hz
        rw [← k4, hxg]; exact p4 k k1 k2
      have hR2 : ∀ z ∈ seg D i m, lt x z = true := by
        intro z hz
        obtain ⟨k, k1, k2, k3, k4⟩ := hmem _ _ z hz
        rw [← k4, hxg]; exact p5 k k1 k2
      rw [seg_append D p1 p3] at sL
      have hins := ins_back hw sL hR1 hR2
      rw [hX] at hD
      generalize D.take a = A at *
      generalize seg D a i = L1 at *
      generalize seg D i m = L2 at *
      generalize D.drop b = B at *
      have hfin : sortAt lt D a b = A ++ (L1 ++ (x :: (L2 ++ B))) := by
        rw [hD, show A ++ (L1 ++ (L2 ++ ([x] ++ B))) = A ++ ((L1 ++ L2 ++ [x]) ++ B) by simp, sortAt_app lt A _ B lA (by simp; omega), hins]
        simp
      have hall : ∀ z, (z = x ∨ z ∈ L2) → rowOk 5 z := by
        intro z hz
        refine hc.row z (hrows z ?_)
        rw [hD]
        rcases hz with rfl | hz <;> simp [*]
      have hxo := hall x (.inl rfl)
      refine SatD.seq ?_
      refine SatD.regSeq hΓ follows [0, 14, 17] ?_
      simp [d50r20]
      refine SatD.block ?_ -- 6
      refine SatD.loop (fun y : PQ => ⟨DM.look [(0, .aref r ver), (14, .v (ti i)), (17, .v (ti ((i + y.P.length : Nat) : Int)))], setO objs r (.arr ver e 5 (A ++ (L1 ++ (y.P ++ (x :: (y.Q ++ B)))))), N + 1000, N, []⟩)
        (fun y => L2 = y.P ++ y.Q) (fun y => y.P.length) ⟨L2, []⟩ ?_ (by simp) (fun y hy => ?_)
      · have e1 : A ++ (L1 ++ (L2 ++ (x :: ([] ++ B)))) = D := by rw [hD]; simp
        simp only [e1]
        refine Le.same (hfr _) ?_
        simp; omega
      obtain ⟨P, Q⟩ := y
      simp only at hy ⊢
      have lPQ : P.length + Q.length = m - i := by rw [← l2, hy]; simp
      obtain ⟨k, hk⟩ : ∃ k, i + P.length = k := ⟨_, rfl⟩
      rw [hk]
      refine SatD.seq ?_
      refine SatD.regSeq hΓ follows [0, 14, 17, 110] ?_
      simp [d50r21]
      refine SatD.cond rfl (fun h => ?_) (fun h => ?_)
      · simp at h
        rcases List.eq_nil_or_concat P with rfl | ⟨P', q, rfl⟩
        · simp at hk; omega
        simp only [List.concat_eq_append] at *
        simp only [List.length_append, List.length_cons, List.length_nil] at hk lPQ
        have hqo := hall q (.inr (by rw [hy]; simp))
        obtain ⟨k', hk'⟩ : ∃ k', k = k' + 1 := ⟨k - 1, by omega⟩
        have w4 : IntKind.i64.wrap ((k : Int) - 1) = (k' : Int) := by rw [wrap_id (by omega)]; omega
        obtain ⟨q1, q2, _, _, q3, q4⟩ := adj (A := A ++ (L1 ++ P')) (B := Q ++ B) (x := q) (y := x) (k := k') (by simp; omega) hk'
        obtain ⟨Dc, hDc⟩ : ∃ Dc, (A ++ (L1 ++ P')) ++ (q :: x :: (Q ++ B)) = Dc := ⟨_, rfl⟩
        rw [hDc] at q1 q2 q3 q4
        have hl : Dc.length = D.length := by rw [← hDc, hD, hy]; simp; omega
        refine SatD.skip ?_
        simp
        refine SatD.seq ?_
        refine SatD.block ?_ -- 7
        rw [show A ++ (L1 ++ (P' ++ q :: x :: (Q ++ B))) = Dc by rw [← hDc]; simp]
        refine SatD.reg hΓ follows [0, 14, 17] ?_
        simp [d50r22, w4, q1, q2, q3, q4, hl, hxo.1, hqo.1, tk hxo.1, tk hqo.1, tkm hxo.1, tkm hqo.1, dr hxo.1, dr hqo.1, pureCells_map hxo.2, pureCells_map hqo.2]
        repeat refine ⟨by omega, ?_⟩
        refine SatD.reg hΓ follows [0, 14, 17] ?_
        simp [d50r23, w4]
        refine ⟨⟨P', q :: Q⟩, ?_, ?_, ?_⟩
        · rw [show A ++ (L1 ++ (P' ++ x :: (q :: Q ++ B))) = A ++ (L1 ++ (P' ++ x :: q :: (Q ++ B))) by simp]
          refine Le.same (hfr _) ?_
          simp; omega
        · simp [hy]
        · simp
      · simp at h
        have hQ : P = [] := List.eq_nil_of_length_eq_zero (by omega)
        subst hQ
        rw [List.nil_append] at hy
        subst hy
        refine SatD.exit ?_
        simp
        refine SatD.ret ?_
        simp [d50res, hfin]
  simp at c2
  refine SatD.skip ?_
  simp
  obtain ⟨mid, hmid⟩ : ∃ mid, (a + b) / 2 = mid := ⟨_, rfl⟩
  have hh := half (i := a) (j := b) (by omega)
  rw [hmid] at hh
  refine SatD.regSeq hΓ follows [0, 1, 2, 3, 4, 18] ?_
  simp [d50r24, hh]
  obtain ⟨n, hn⟩ : ∃ n, mid + m = n := ⟨_, rfl⟩
  have hn' : IntKind.i64.wrap ((mid : Int) + m) = (n : Int) := by rw [wrap_id (by omega)]; omega
  refine SatD.regSeq hΓ follows [0, 1, 2, 3, 4, 18, 19] ?_
  simp [d50r25, hn']
  refine SatD.regSeq hΓ follows [0, 1, 2, 3, 4, 18, 19] ?_
  simp [d50r26]
  refine SatD.seq ?_
  refine SatD.regSeq hΓ follows [0, 1, 2, 3, 4, 18, 19, 140] ?_
  simp [d50r27]
  obtain ⟨s0, hs0⟩ : ∃ s0, (if mid < m then n - b else a) = s0 := ⟨_, rfl⟩
  obtain ⟨r0, hr0⟩ : ∃ r0, (if mid < m then mid else m) = r0 := ⟨_, rfl⟩
  refine SatD.to ⟨DM.look [(0, .aref r ver), (1, .v (ti a)), (2, .v (ti m)), (3, .v (ti b)), (4, .v (.fn (.func 36) [])), (18, .v (ti mid)), (19, .v (ti n)), (20, .v (ti s0)), (21, .v (ti r0))], setO objs r (.arr ver e 5 D), N + 1000, N, []⟩ ?_ ?_
  · refine SatD.cond rfl (fun c3 => ?_) (fun c3 => ?_)
    · simp at c3
      have e1 : s0 = n - b := by rw [← hs0, if_pos c3]
      have e2 : r0 = mid := by rw [← hr0, if_pos c3]
      refine SatD.regSeq hΓ follows [0, 1, 2, 3, 4, 18, 19, 20] ?_
      simp [d50r28]
      refine SatD.reg hΓ follows [0, 1, 2, 3, 4, 18, 19, 20, 21] ?_
      simp [d50r29]
      refine Le.same (hfr _) ?_
      simp
      refine ⟨?_, by omega⟩
      rw [wrap_id (by omega)]; omega
    · simp at c3
      have e1 : s0 = a := by rw [← hs0, if_neg (by omega)]
      have e2 : r0 = m := by rw [← hr0, if_neg (by omega)]
      refine SatD.regSeq hΓ follows [0, 1, 2, 3, 4, 18, 19, 20] ?_
      simp [d50r30]
      refine SatD.reg hΓ follows [0, 1, 2, 3, 4, 18, 19, 20, 21] ?_
      simp [d50r31]
      refine Le.same (hfr _) ?_
      simp [e1, e2]
  have hsr : a ≤ s0 ∧ s0 ≤ r0 ∧ r0 ≤ m ∧ r0 ≤ mid ∧ n - s0 ≤ b ∧ m ≤ n - r0 ∧ s0 ≤ n ∧ (s0 = a ∨ n - s0 = b) ∧ (r0 = m ∨ n - r0 = m) := by
    by_cases c3 : mid < m
    · rw [if_pos c3] at hs0 hr0; omega
    · rw [if_neg c3] at hs0 hr0; omega
  clear hs0 hr0
  obtain ⟨hs1, hs2, hs3, hs4, hs5, hs6, hs7, hs8, hs9⟩ := hsr
  have w3 : IntKind.i64.wrap ((n : Int) - 1) = ((n - 1 : Nat) : Int) := by rw [wrap_id (by omega)]; omega
  refine SatD.regSeq hΓ follows [0, 1, 2, 3, 4, 18, 19, 20, 21, 22] ?_
  simp [d50r32, w3]
  refine SatD.seq ?_
  refine SatD.block ?_ -- 8
  refine SatD.loop (fun y : IJ => ⟨DM.look [(0, .aref r ver), (1, .v (ti a)), (2, .v (ti m)), (3, .v (ti b)), (4, .v (.fn (.func 36) [])), (18, .v (ti mid)), (19, .v (ti n)), (20, .v (ti y.i)), (21, .v (ti y.j)), (22, .v (ti ((n - 1 : Nat) : Int)))], setO objs r (.arr ver e 5 D), N + 1000, N, []⟩)
    (fun y => s0 ≤ y.i ∧ y.i ≤ y.j ∧ y.j ≤ r0 ∧ (y.i = s0 ∨ lt (g (n - y.i)) (g (y.i - 1)) = false) ∧ (y.j = r0 ∨ lt (g (n - 1 - y.j)) (g y.j) = true)) (fun y => y.j - y.i) ⟨s0, r0⟩ ?_ ?_ (fun y hy => ?_)
  · exact Le.same (hfr _) (by simp)
  · exact ⟨by simp, by simp; omega, by simp, .inl rfl, .inl rfl⟩
  obtain ⟨i, j⟩ := y
  obtain ⟨p1, p2, p3, p4, p5⟩ := hy
  simp only at p1 p2 p3 p4 p5 ⊢
  refine SatD.seq ?_
  refine SatD.regSeq hΓ follows [0, 1, 2, 3, 4, 18, 19, 20, 21, 22, 151] ?_
  simp [d50r33]
  refine SatD.cond rfl (fun h => ?_) (fun h => ?_)
  · simp at h
    refine SatD.skip ?_
    simp
    refine SatD.block ?_ -- 9
    obtain ⟨c, hcc⟩ : ∃ c, (i + j) / 2 = c := ⟨_, rfl⟩
    have hh := half (i := i) (j := j) (by omega)
    rw [hcc] at hh
    refine SatD.regSeq hΓ follows [0, 1, 2, 3, 4, 18, 19, 20, 21, 22, 23] ?_
    simp [d50r34, hh]
    obtain ⟨q, hq⟩ : ∃ q, n - 1 - c = q := ⟨_, rfl⟩
    have w4 : IntKind.i64.wrap (((n - 1 : Nat) : Int) - c) = (q : Int) := by rw [wrap_id (by omega)]; omega
    have hgc := hgr c (by omega)
    have hgq := hgr q (by omega)
    refine SatD.regSeq hΓ follows [0, 1, 2, 3, 4, 18, 19, 20, 21, 22, 23, 171] ?_
    simp [d50r35, w4, hrow, hgc.1, hgq.1, tk hgc.1, tk hgq.1, Γ50, cmpSpec, hlt2]
    refine ⟨by omega, by omega, ⟨_, _, ⟨rfl, rfl⟩, hgood q (by omega), hgood c (by omega)⟩, ?_⟩
    refine SatD.cond rfl (fun h5 => ?_) (fun h5 => ?_)
    · simp only [Bool.not_eq_true'] at h5
      refine SatD.reg hΓ follows [0, 1, 2, 3, 4, 18, 19, 20, 21, 22] ?_
      simp [d50r36]
      refine ⟨⟨c + 1, j⟩, Le.same (hfr _) ?_, ⟨by simp only; omega, by simp only; omega, p3, .inr ?_, p5⟩, by simp only; omega⟩
      · simp
        rw [wrap_id (by omega)]
      · simp only
        rw [show n - (c + 1) = q by omega, show c + 1 - 1 = c by omega]; exact h5
    · simp only [Bool.not_eq_false'] at h5
      refine SatD.reg hΓ follows [0, 1, 2, 3, 4, 18, 19, 20, 21, 22] ?_
      simp [d50r37]
      refine ⟨⟨i, c⟩, Le.same (hfr _) ?_, ⟨p1, by simp only; omega, by simp only; omega, p4, .inr ?_⟩, by simp only; omega⟩
      · simp
      · simp only
        rw [hq]; exact h5
  simp at h
  have hij : i = j := by omega
  subst hij
  refine SatD.exit ?_
  simp
  obtain ⟨en, hen⟩ : ∃ en, n - i = en := ⟨_, rfl⟩
  have w5 : IntKind.i64.wrap ((n : Int) - i) = (en : Int) := by rw [wrap_id (by omega)]; omega
  have k1 : ∀ rr ∈ seg D m en, ∀ l ∈ seg D i m, lt rr l = true := by
    intro rr hrr l hl
    obtain ⟨x, x1, x2, x3, x4⟩ := hmem _ _ _ hrr
    obtain ⟨y, y1, y2, y3, y4⟩ := hmem _ _ _ hl
    rw [← x4, ← y4]
    have h5 : lt (g (n - 1 - i)) (g i) = true := by
      rcases p5 with e | e
      · exfalso; omega
      · exact e
    cases h6 : lt (g x) (g y) with
    | true => rfl
    | false =>
      have h7 : lt (g x) (g i) = false := by
        by_cases e : y = i
        · subst e; exact h6
        · exact hw.ntrans _ _ _ h6 (gl i y (by omega) (by omega) y2)
      have h8 : lt (g (n - 1 - i)) (g i) = false := by
        by_cases e : x = n - 1 - i
        · rw [← e]; exact h7
        · exact hw.ntrans _ _ _ (gr x (n - 1 - i) x1 (by omega) (by omega)) h7
      rw [h5] at h8; cases h8
  have k2 : ∀ l ∈ seg D a i, ∀ rr ∈ seg D en b, lt rr l = false := by
    intro l hl rr hrr
    obtain ⟨x, x1, x2, x3, x4⟩ := hmem _ _ _ hrr
    obtain ⟨y, y1, y2, y3, y4⟩ := hmem _ _ _ hl
    rw [← x4, ← y4]
    have h5 : lt (g (n - i)) (g (i - 1)) = false := by
      rcases p4 with e | e
      · exfalso; omega
      · exact e
    have h6 : lt (g x) (g (i - 1)) = false := by
      by_cases e : x = n - i
      · rw [e]; exact h5
      · exact hw.ntrans _ _ _ (gr (n - i) x (by omega) (by omega) x2) h5
    by_cases e : y = i - 1
    · rw [e]; exact h6
    · exact hw.ntrans _ _ _ h6 (gl y (i - 1) y1 (by omega) (by omega))
  have law := symMerge_law hw (D := D) (a := a) (s := i) (m := m) (e := en) (b := b) (mid := mid) (by omega) (by omega) (by omega) (by omega) h3 (by omega) sL sR k1 k2
  simp only at law
  refine SatD.regSeq hΓ follows [0, 1, 2, 3, 4, 18, 20, 24] ?_
  simp [d50r38, w5]
  obtain ⟨D1, hD1⟩ : ∃ D1, rotAt D i m en = D1 := ⟨_, rfl⟩
  obtain ⟨D2, hD2⟩ : ∃ D2, sortAt lt D1 a mid = D2 := ⟨_, rfl⟩
  rw [hD1, hD2] at law
  obtain ⟨⟨a1, a2⟩, ⟨a3, a4⟩, a5, a6, a7, a8, a9⟩ := law
  have lD1 : D1.length = D.length := by rw [← hD1]; exact rotAt_length (by omega) (by omega) (by omega)
  have lD2 : D2.length = D.length := by rw [← hD2, sortAt_length lt D1 (by omega) (by omega), lD1]
  have gD1 : ∀ x ∈ D1, good x := fun x hx => hrows x ((mem_rotAt (D := D) (a := i) (m := m) (b := en) (by omega) (by omega)).1 (by rw [hD1]; exact hx))
  have gD2 : ∀ x ∈ D2, good x := fun x hx => gD1 x ((mem_sortAt (lt := lt) (D := D1) (a := a) (b := mid) (by omega)).1 (by rw [hD2]; exact hx))
  refine SatD.seq ?_
  refine SatD.regToS hΓ follows [(0, .aref r ver), (1, .v (ti a)), (2, .v (ti m)), (3, .v (ti b)), (4, .v (.fn (.func 36) [])), (18, .v (ti mid)), (20, .v (ti i)), (24, .v (ti en)), (185, .v (.bool (decide (i < m ∧ m < en))))] ?_ ?_
  · simp [d50r39]
    repeat' (first | apply And.intro | intro _)
    all_goals first | omega | (simp; omega) | trace_state
  refine SatD.to ⟨DM.look [(0, .aref r ver), (1, .v (ti a)), (3, .v (ti b)), (4, .v (.fn (.func 36) [])), (18, .v (ti mid)), (20, .v (ti i)), (24, .v (ti en))], setO objs r (.arr ver e 5 D1), N + 1000, N, []⟩ ?_ ?_
  · refine SatD.cond rfl (fun c3 => ?_) (fun c3 => ?_)
    · simp only [decide_eq_true_eq] at c3
      refine SatD.regA hΓ follows (rs := d50r40S) (.inr ⟨_, rfl⟩) (by kernel_rfl) [0, 1, 3, 4, 18, 20, 24] ?_
      simp [d50r40S, Γ50, k51, hD1]
      refine ⟨⟨fun x hx => hc.row x (hrows x hx), by omega, by omega, by omega, by omega⟩, ?_⟩
      exact Le.same (hfr _) (by simp)
    · simp only [decide_eq_false_iff_not] at c3
      rw [rotAt_triv (by omega) (by omega) c3] at hD1
      subst hD1
      refine SatD.skip ⟨rfl, ?_⟩
      exact Le.same (hfr _) (by simp)
  refine SatD.seq ?_
  refine SatD.regToS hΓ follows [(0, .aref r ver), (1, .v (ti a)), (3, .v (ti b)), (4, .v (.fn (.func 36) [])), (18, .v (ti mid)), (20, .v (ti i)), (24, .v (ti en)), (199, .v (.bool (decide (a < i ∧ i < mid))))] ?_ ?_
  · simp [d50r41]
    repeat' (first | apply And.intro | intro _)
    all_goals first | omega | (simp; omega) | trace_state
  refine SatD.to ⟨DM.look [(0, .aref r ver), (3, .v (ti b)), (4, .v (.fn (.func 36) [])), (18, .v (ti mid)), (24, .v (ti en))], setO objs r (.arr ver e 5 D2), N + 1000, N, []⟩ ?_ ?_
  · refine SatD.cond rfl (fun c3 => ?_) (fun c3 => ?_)
    · simp only [decide_eq_true_eq] at c3
      refine SatD.regA hΓ follows (rs := d50r42S) (.inr ⟨_, rfl⟩) (by kernel_rfl) [0, 3, 4, 18, 24] ?_
      simp [d50r42S, Γ50, k50, hlt, hD2]
      refine ⟨⟨gD1, by omega, by omega, by omega, by omega, by omega, a1, a2⟩, ?_⟩
      exact Le.same (hfr _) (by simp)
    · simp only [decide_eq_false_iff_not] at c3
      have e1 : D2 = D1 := by
        by_cases e : i = a
        · exact a6 e
        · exact a7 (by omega)
      rw [e1]
      refine SatD.skip ⟨rfl, ?_⟩
      exact Le.same (hfr _) (by simp)
  refine SatD.regToS hΓ follows [(0, .aref r ver), (3, .v (ti b)), (4, .v (.fn (.func 36) [])), (18, .v (ti mid)), (24, .v (ti en)), (213, .v (.bool (decide (mid < en ∧ en < b))))] ?_ ?_
  · simp [d50r43]
    repeat' (first | apply And.intro | intro _)
    all_goals first | omega | (simp; omega) | trace_state
  refine SatD.cond rfl (fun c3 => ?_) (fun c3 => ?_)
  · simp only [decide_eq_true_eq] at c3
    refine SatD.regA hΓ follows (rs := d50r44S) (.inr ⟨_, rfl⟩) (by kernel_rfl) [] ?_
    simp [d50r44S, Γ50, k50, hlt, a5, d50res]
    exact ⟨gD2, by omega, by omega, by omega, by omega, by omega, a3, a4⟩
  · simp only [decide_eq_false_iff_not] at c3
    have e1 : sortAt lt D a b = D2 := by
      rw [← a5]
      by_cases e : en ≤ mid
      · exact a8 e
      · exact a9 (by omega)
    refine SatD.skip ?_
    simp [d50res, e1]

/-- The symmetric merge, by recursion. -/
theorem ok50 {good : List T → Prop} {cmpF : List T → List T → Int} (hc : CmpOk good cmpF 36 5) (hw : SWO (ltF cmpF)) : ∀ F : Nat, EnvOk Try.prog (Γ50 good cmpF F)
  | 0 => by
    refine EnvOk.consS (ok51 hc) ?_
    intro args objs h
    unfold k50 at h
    split at h
    · split at h
      · simp only at h; omega
      · exact h.elim
    · exact h.elim
  | F + 1 => by
    refine EnvOk.consS (ok51 hc) ?_
    intro args objs h
    unfold k50 at h ⊢
    split at h
    · split at h
      · rename_i a m b c caps _ ver' e sz D hob
        obtain ⟨rfl, rfl, rfl, rfl, h1, h2, h3, h4, h5, h6, h7, h8, h9⟩ := h
        have ea : a = (a.toNat : Int) := by omega
        have eb : b = (b.toNat : Int) := by omega
        have en : m = (m.toNat : Int) := by omega
        refine ⟨fun N hN => ?_, fun k hk => setO_none hob hk⟩
        have := t50s hc hw F (ok50 hc hw F) D a.toNat m.toNat b.toNat objs _ _ e hob h1 (by omega) (by omega) (by omega) h6 (by omega) h8 h9 hN
        rw [← ea, ← eb, ← en] at this
        simp only [hob]
        exact this.of rfl rfl
      · exact h.elim
    · exact h.elim
end Go.Proofs
namespace Go.Proofs
open Go.DM Go.DM.Srt
set_option linter.unusedSimpArgs false
set_option linter.unusedVariables false

theorem isortR_snoc (lt : List T → List T → Bool) (l : List (List T)) (x : List T) : isortR lt (l ++ [x]) = insR lt x (isortR lt l) := by simp [isortR]

set_option maxRecDepth 20000 in
set_option maxHeartbeats 4000000 in
theorem t49 {good : List T → Prop} {cmpF : List T → List T → Int} (hc : CmpOk good cmpF 36 5)
    (D : List (List T)) (a b : Nat) (objs : Obs) (r ver e : Nat) (hob : objs r = some (.arr ver e 5 D)) (hrows : ∀ x ∈ D, good x) (h1 : a ≤ b) (h3 : b ≤ D.length) (h4 : D.length ≤ 140737488355328)
    {N : Nat} (hN : ∀ r, N ≤ r → objs r = none) : CallsS Try.prog 49 [.aref r ver, .v (ti a), .v (ti b), .v (.fn (.func 36) [])] objs ⟨True, .v (.tup []), setO objs r (.arr ver e 5 (sortAt (ltF cmpF) D a b))⟩ := by
  have hΓ := cmp_env hc
  have hfr : ∀ o k, N + 1000 ≤ k → setO objs r o k = none := fun o k hk => setO_none hob (hN k (by omega))
  obtain ⟨lt, hlt, hlt2⟩ : ∃ lt : List T → List T → Bool, ltF cmpF = lt ∧ ∀ x y, decide (cmpF x y < 0) = lt x y := ⟨_, rfl, fun _ _ => rfl⟩
  rw [hlt]
  refine c49.okS hN (by simp) (initS_sat ?_)
  rw [setO_self hob]
  simp
  have hD : D = D.take a ++ (seg D a b ++ D.drop b) := by rw [seg_drop D h1, List.take_append_drop]
  have lA : (D.take a).length = a := by simp; omega
  have lX : (seg D a b).length = b - a := by simp; omega
  have lB : (D.drop b).length = D.length - b := by simp
  obtain ⟨A, hA⟩ : ∃ A, D.take a = A := ⟨_, rfl⟩
  obtain ⟨X, hX⟩ : ∃ X, seg D a b = X := ⟨_, rfl⟩
  obtain ⟨B, hB⟩ : ∃ B, D.drop b = B := ⟨_, rfl⟩
  have hfin : sortAt lt D a b = A ++ (isort lt X ++ B) := by unfold sortAt; rw [hA, hX, hB]
  rw [hA, hX, hB] at hD
  rw [hA] at lA
  rw [hX] at lX
  rw [hB] at lB
  have w1 : IntKind.i64.wrap ((a : Int) + 1) = ((a + 1 : Nat) : Int) := by rw [wrap_id (by omega)]; omega
  refine SatD.regSeq hΓ follows [0, 1, 2, 3, 8] ?_
  simp [d49r0, w1]
  refine SatD.block ?_ -- 0
  refine SatD.loop (fun y : PQ => ⟨DM.look [(0, .aref r ver), (1, .v (ti a)), (2, .v (ti b)), (3, .v (.fn (.func 36) [])), (8, .v (ti ((a + 1 + (y.P.length - 1) : Nat) : Int)))], setO objs r (.arr ver e 5 (A ++ (isort lt y.P ++ (y.Q ++ B)))), N + 1000, N, []⟩)
    (fun y => X = y.P ++ y.Q ∧ (y.P = [] → y.Q = [])) (fun y => y.Q.length) ⟨X.take 1, X.drop 1⟩ ?_ ?_ (fun y hy => ?_)
  · have e1 : A ++ (isort lt (X.take 1) ++ (X.drop 1 ++ B)) = D := by
      rw [hD]
      cases X with
      | nil => simp [isort, isortR]
      | cons x X => simp [isort, isortR, insR]
    simp only [e1]
    refine Le.same (hfr _) ?_
    cases X with
    | nil => simp
    | cons x X => simp
  · refine ⟨(List.take_append_drop 1 X).symm, ?_⟩
    cases X with
    | nil => simp
    | cons x X => simp
  obtain ⟨P, Q⟩ := y
  obtain ⟨hy1, hy2⟩ := hy
  simp only at hy1 hy2 ⊢
  have lPQ : P.length + Q.length = b - a := by rw [← lX, hy1]; simp
  obtain ⟨i, hi⟩ : ∃ i, a + 1 + (P.length - 1) = i := ⟨_, rfl⟩
  rw [hi]
  refine SatD.seq ?_
  refine SatD.regSeq hΓ follows [0, 1, 2, 3, 8, 14] ?_
  simp [d49r1]
  refine SatD.cond rfl (fun h => ?_) (fun h => ?_)
  · simp at h
    match P, Q, hy2, lPQ with
    | [], Q, hy2, lPQ => have := hy2 rfl; subst this; simp at lPQ hi; omega
    | p0 :: P0, [], _, lPQ => simp at lPQ hi; omega
    | p0 :: P0, x :: Q, _, lPQ =>
    generalize hPP : p0 :: P0 = P at *
    have hPl : 1 ≤ P.length := by rw [← hPP]; simp
    simp only [List.length_cons] at lPQ
    have hxD : x ∈ D := by rw [hD, hy1]; simp
    have hxo := hc.row x (hrows x hxD)
    refine SatD.skip ?_
    simp
    refine SatD.seq ?_
    refine SatD.block ?_ -- 1
    refine SatD.regSeq hΓ follows [0, 1, 2, 3, 8, 9] ?_
    simp [d49r2]
    refine SatD.block ?_ -- 2
    obtain ⟨acc, hacc⟩ : ∃ acc, isortR lt P = acc := ⟨_, rfl⟩
    have his : isort lt P = acc.reverse := by unfold isort; rw [hacc]
    have lacc : acc.length = P.length := by have := isort_length (lt := lt) P; rw [his] at this; simpa using this
    have macc : ∀ z, z ∈ acc → z ∈ D := by
      intro z hz
      have : z ∈ isort lt P := by rw [his]; simpa using hz
      rw [mem_isort] at this
      rw [hD, hy1]; simp [this]
    rw [his]
    refine SatD.loop (fun y : PQ => ⟨DM.look [(0, .aref r ver), (1, .v (ti a)), (2, .v (ti b)), (3, .v (.fn (.func 36) [])), (8, .v (ti i)), (9, .v (ti ((a + y.P.length : Nat) : Int)))], setO objs r (.arr ver e 5 (A ++ (y.P ++ (x :: (y.Q ++ (Q ++ B)))))), N + 1000, N, []⟩)
      (fun y => acc = y.Q.reverse ++ y.P.reverse ∧ insR lt x acc = y.Q.reverse ++ insR lt x y.P.reverse) (fun y => y.P.length) ⟨acc.reverse, []⟩ ?_ ?_ (fun y hz => ?_)
    · simp only [List.nil_append]
      refine Le.same (hfr _) ?_
      simp [lacc]; omega
    · simp
    obtain ⟨P1, Q1⟩ := y
    obtain ⟨hz1, hz2⟩ := hz
    simp only at hz1 hz2 ⊢
    obtain ⟨k, hk⟩ : ∃ k, a + P1.length = k := ⟨_, rfl⟩
    have l1 : P1.length + Q1.length = P.length := by rw [← lacc, hz1]; simp; omega
    rw [hk]
    refine SatD.seq ?_
    obtain ⟨t, ht⟩ : ∃ t, (match P1.reverse with | [] => false | p :: _ => lt x p) = t := ⟨_, rfl⟩
    obtain ⟨Dc, hDc⟩ : ∃ Dc, A ++ (P1 ++ (x :: (Q1 ++ (Q ++ B)))) = Dc := ⟨_, rfl⟩
    have hl : Dc.length = D.length := by rw [← hDc, hD, hy1]; simp; omega
    have hkD : k < D.length := by
      have : D.length = a + (P.length + (Q.length + 1) + B.length) := by rw [hD, hy1]; simp; omega
      omega
    have hkx : DM.rowAt Dc k = x := by
      rw [← hDc, ← List.append_assoc]; exact rowAt_app (by simp; omega)
    rw [hDc]
    refine SatD.regToS hΓ follows [(0, .aref r ver), (1, .v (ti a)), (2, .v (ti b)), (3, .v (.fn (.func 36) [])), (8, .v (ti i)), (9, .v (ti k)), (34, .v (.bool t))] ?_ ?_
    · rcases List.eq_nil_or_concat P1 with rfl | ⟨P2, p, rfl⟩
      · simp at hk ht
        simp [d49r3, hk, ht]
      · simp only [List.concat_eq_append, List.reverse_append, List.reverse_cons, List.reverse_nil, List.nil_append, List.singleton_append, List.length_append, List.length_cons, List.length_nil] at hk ht hDc hz1
        obtain ⟨k', hk'⟩ : ∃ k', k = k' + 1 := ⟨k - 1, by omega⟩
        have hpD : p ∈ D := macc p (by rw [hz1]; simp)
        have hpo := hc.row p (hrows p hpD)
        have w4 : IntKind.i64.wrap ((k : Int) - 1) = (k' : Int) := by rw [wrap_id (by omega)]; omega
        have hkp : DM.rowAt Dc k' = p := by
          rw [← hDc, show A ++ ((P2 ++ [p]) ++ (x :: (Q1 ++ (Q ++ B)))) = (A ++ P2) ++ (p :: x :: (Q1 ++ (Q ++ B))) by simp]
          exact rowAt_app (by simp; omega)
        simp [d49r3, w4, hkx, hkp, hl, hxo.1, hpo.1, tk hxo.1, tk hpo.1, cmpSpec, hlt2, ht]
        refine ⟨fun _ => ⟨by omega, by omega, ⟨_, _, ⟨rfl, rfl⟩, hrows x hxD, hrows p hpD⟩⟩, fun h => ?_⟩
        omega
    refine SatD.cond rfl (fun h5 => ?_) (fun h5 => ?_)
    · rcases List.eq_nil_or_concat P1 with rfl | ⟨P2, p, rfl⟩
      · simp at ht; rw [h5] at ht; cases ht
      · simp only [List.concat_eq_append, List.reverse_append, List.reverse_cons, List.reverse_nil, List.nil_append, List.singleton_append, List.length_append, List.length_cons, List.length_nil] at hk ht hDc hz1 hz2 l1 ⊢
        rw [h5] at ht
        obtain ⟨k', hk'⟩ : ∃ k', k = k' + 1 := ⟨k - 1, by omega⟩
        have hpD : p ∈ D := macc p (by rw [hz1]; simp)
        have hpo := hc.row p (hrows p hpD)
        have w4 : IntKind.i64.wrap ((k : Int) - 1) = (k' : Int) := by rw [wrap_id (by omega)]; omega
        obtain ⟨q1, q2, _, _, q3, q4⟩ := adj (A := A ++ P2) (B := Q1 ++ (Q ++ B)) (x := p) (y := x) (k := k') (by simp; omega) hk'
        rw [show (A ++ P2) ++ (p :: x :: (Q1 ++ (Q ++ B))) = Dc by rw [← hDc]; simp] at q1 q2 q3 q4
        refine SatD.skip ?_
        simp
        refine SatD.seq ?_
        refine SatD.block ?_ -- 3
        refine SatD.reg hΓ follows [0, 1, 2, 3, 8, 9] ?_
        simp [d49r4, w4, q1, q2, q3, q4, hl, hxo.1, hpo.1, tk hxo.1, tk hpo.1, tkm hxo.1, tkm hpo.1, dr hxo.1, dr hpo.1, pureCells_map hxo.2, pureCells_map hpo.2]
        repeat refine ⟨by omega, ?_⟩
        refine SatD.reg hΓ follows [0, 1, 2, 3, 8, 9] ?_
        simp [d49r5, w4]
        refine ⟨⟨P2, p :: Q1⟩, ?_, ⟨?_, ?_⟩, ?_⟩
        · rw [show A ++ (P2 ++ x :: (p :: Q1 ++ (Q ++ B))) = A ++ (P2 ++ x :: p :: (Q1 ++ (Q ++ B))) by simp]
          refine Le.same (hfr _) ?_
          simp; omega
        · simp [hz1]
        · rw [hz2, insR, if_pos ht]; simp
        · simp
    · have hins : insR lt x P1.reverse = x :: P1.reverse := by
        cases hr : P1.reverse with
        | nil => rfl
        | cons p P2 =>
          rw [hr] at ht
          simp only at ht
          rw [insR, if_neg (by rw [ht, h5]; simp)]
      rw [hins] at hz2
      have hnew : isort lt (P ++ [x]) = P1 ++ x :: Q1 := by
        unfold isort
        rw [isortR_snoc, hacc, hz2]; simp
      refine SatD.exit ?_
      simp
      refine SatD.reg hΓ follows [0, 1, 2, 3, 8] ?_
      simp [d49r6]
      refine ⟨⟨P ++ [x], Q⟩, ?_, ⟨?_, ?_⟩, ?_⟩
      · rw [show A ++ (isort lt (P ++ [x]) ++ (Q ++ B)) = Dc by rw [hnew, ← hDc]; simp]
        refine Le.same (hfr _) ?_
        simp
        rw [wrap_id (by omega)]; omega
      · rw [hy1]; simp
      · simp
      · simp
  · simp at h
    have hQ : Q = [] := by
      by_cases e : P = []
      · exact hy2 e
      · have : 1 ≤ P.length := List.length_pos_iff.2 e
        exact List.eq_nil_of_length_eq_zero (by omega)
    subst hQ
    rw [List.append_nil] at hy1
    subst hy1
    refine SatD.exit ?_
    simp [d49res, hfin]
end Go.Proofs
/- The D-machine, part W: plain laws of the stable sort by blocks. Conditions: none. -/
namespace Go.DM.Srt
set_option linter.unusedVariables false
set_option linter.unusedSimpArgs false
section
variable {α : Type} {lt : α → α → Bool}
theorem isort_congr (h : SWO lt) {l l' : List α} (hf : ∀ x, l.filter (eqv lt x) = l'.filter (eqv lt x)) : isort lt l = isort lt l' :=
  isort_eq h (isort_sorted h l') fun x => by rw [isort_filter h, hf]
theorem isort_sortAt (h : SWO lt) {D : List α} {a b : Nat} (hab : a ≤ b) : isort lt (sortAt lt D a b) = isort lt D := by
  refine isort_congr h fun x => ?_
  unfold sortAt
  conv => rhs; rw [← List.take_append_drop a D, ← seg_drop D hab]
  simp only [List.filter_append, isort_filter h]
theorem seg_left (A B : List α) {i j : Nat} (h : j ≤ A.length) : seg (A ++ B) i j = seg A i j := by
  unfold seg
  by_cases hi : i ≤ A.length
  · rw [List.drop_append_of_le_length hi, List.take_append_of_le_length (by simp; omega)]
  · rw [show j - i = 0 by omega]; simp
theorem seg_right (A B : List α) {i j : Nat} (h : A.length ≤ i) : seg (A ++ B) i j = seg B (i - A.length) (j - A.length) := by
  unfold seg
  rw [List.drop_append, List.drop_eq_nil_of_le h, List.nil_append, show j - A.length - (i - A.length) = j - i by omega]
theorem seg_sortAt_other {D : List α} {a b i j : Nat} (hab : a ≤ b) (hb : b ≤ D.length) (h : j ≤ a ∨ b ≤ i) : seg (sortAt lt D a b) i j = seg D i j := by
  have hD : D = D.take a ++ (seg D a b ++ D.drop b) := by rw [seg_drop D hab, List.take_append_drop]
  have lA : (D.take a).length = a := by simp; omega
  have lS : (seg D a b).length = b - a := by simp; omega
  unfold sortAt
  conv => rhs; rw [hD]
  rcases h with h | h
  · rw [seg_left _ _ (by omega), seg_left _ _ (by omega)]
  · rw [← List.append_assoc, ← List.append_assoc, seg_right _ _ (by simp; omega), seg_right _ _ (by simp; omega)]
    congr 1 <;> simp
theorem seg_sortAt_self {D : List α} {a b : Nat} (hab : a ≤ b) (hb : b ≤ D.length) : seg (sortAt lt D a b) a b = isort lt (seg D a b) := by
  unfold sortAt
  exact seg_app _ _ _ (by simp; omega) (by simp; omega)
theorem seg_end {D : List α} {i j : Nat} (h : D.length ≤ j) : seg D i j = D.drop i := by
  unfold seg
  exact List.take_of_length_le (by simp; omega)
/-- Each block of this length is sorted, from this one on. -/
def Blocks (lt : α → α → Bool) (D : List α) (bs : Nat) (p : Nat → Prop) : Prop := ∀ j, p j → Sorted lt (seg D (j * bs) (j * bs + bs))
theorem mul_lt_of {j k bs : Nat} (h : j < k) : j * bs + bs ≤ k * bs := by
  have := Nat.mul_le_mul_right bs (show j + 1 ≤ k by omega)
  rw [Nat.add_mul] at this; omega
end
end Go.DM.Srt
namespace Go.Proofs
open Go.DM Go.DM.Srt
set_option linter.unusedSimpArgs false
set_option linter.unusedVariables false

def k49 (good : List T → Prop) (cmpF : List T → List T → Int) : List DV → Obs → SRes
  | [.aref r ver, .v (.int .i64 a), .v (.int .i64 b), .v (.fn (.func c) caps)], objs => match objs r with
    | some (.arr ver' e sz D) => ⟨ver = ver' ∧ sz = 5 ∧ c = 36 ∧ caps = [] ∧ (∀ x ∈ D, good x) ∧ 0 ≤ a ∧ a ≤ b ∧ b ≤ D.length ∧ D.length ≤ 140737488355328,
        .v (.tup []), setO objs r (.arr ver e 5 (sortAt (ltF cmpF) D a.toNat b.toNat))⟩
    | _ => ⟨False, .undef, objs⟩
  | [.nil0, .v (.int .i64 a), .v (.int .i64 b), .v (.fn (.func c) caps)], objs => ⟨a = 0 ∧ b = 0, .v (.tup []), objs⟩
  | _, objs => ⟨False, .undef, objs⟩
def Γ48 (good : List T → Prop) (cmpF : List T → List T → Int) (F : Nat) : Env := envOf [(49, specS (k49 good cmpF)), (50, specS (k50 good cmpF F)), (51, specS k51), (36, cmpSpec good cmpF)]

theorem t49n (objs : Obs) (f : T) {N : Nat} (hN : ∀ r, N ≤ r → objs r = none) : CallsS Try.prog 49 [.nil0, .v (ti 0), .v (ti 0), .v f] objs ⟨True, .v (.tup []), objs⟩ := by
  have hΓ : EnvOk Try.prog (envOf []) := EnvOk.nil
  refine c49.okS hN (by simp) (initS_sat ?_)
  simp
  refine SatD.regSeq hΓ follows [2, 8] ?_
  simp [d49r0]
  refine SatD.block ?_ -- 0
  refine SatD.loop (fun y : Nat => ⟨DM.look [(2, .v (ti 0)), (8, .v (ti 1))], objs, N + 1000, N, []⟩) (fun _ => True) (fun _ => 0) 0 (Le.same (fun k hk => hN k (by omega)) (by simp)) trivial (fun y hy => ?_)
  refine SatD.seq ?_
  refine SatD.regSeq hΓ follows [14] ?_
  simp [d49r1]
  refine SatD.cond rfl (fun h => by cases h) (fun _ => ?_)
  refine SatD.exit ?_
  simp [d49res]

theorem ok49 {good : List T → Prop} {cmpF : List T → List T → Int} (hc : CmpOk good cmpF 36 5) (hw : SWO (ltF cmpF)) (F : Nat) : EnvOk Try.prog (Γ48 good cmpF F) := by
  refine EnvOk.consS (ok50 hc hw F) ?_
  intro args objs h
  unfold k49 at h ⊢
  split at h
  · split at h
    · rename_i a b c caps _ ver' e sz D hob
      obtain ⟨rfl, rfl, rfl, rfl, h1, h2, h3, h4, h5⟩ := h
      have ea : a = (a.toNat : Int) := by omega
      have eb : b = (b.toNat : Int) := by omega
      refine ⟨fun N hN => ?_, fun k hk => setO_none hob hk⟩
      have := t49 hc D a.toNat b.toNat objs _ _ e hob h1 (by omega) (by omega) h5 hN
      rw [← ea, ← eb] at this
      simp only [hob]
      exact this.of rfl rfl
    · exact h.elim
  · obtain ⟨rfl, rfl⟩ := h
    exact ⟨fun N hN => (t49n objs _ hN).of rfl rfl, fun _ h => h⟩
  · exact h.elim

structure KD where
  k : Nat
  D : List (List T)
structure BD where
  b : Nat
  D : List (List T)

set_option maxRecDepth 20000 in
set_option maxHeartbeats 4000000 in
theorem t48 {good : List T → Prop} {cmpF : List T → List T → Int} (hc : CmpOk good cmpF 36 5) (hw : SWO (ltF cmpF))
    (D : List (List T)) (objs : Obs) (r ver e : Nat) (hob : objs r = some (.arr ver e 5 D)) (hrows : ∀ x ∈ D, good x) (h4 : D.length ≤ 140737488355328)
    {N : Nat} (hN : ∀ r, N ≤ r → objs r = none) : CallsS Try.prog 48 [.aref r ver, .v (ti D.length), .v (.fn (.func 36) [])] objs ⟨True, .v (.tup []), setO objs r (.arr ver e 5 (isort (ltF cmpF) D))⟩ := by
  have hΓ := ok49 hc hw (D.length + 1)
  have hfr : ∀ o k, N + 1000 ≤ k → setO objs r o k = none := fun o k hk => setO_none hob (hN k (by omega))
  obtain ⟨lt, hlt⟩ : ∃ lt : List T → List T → Bool, ltF cmpF = lt := ⟨_, rfl⟩
  rw [hlt] at hw ⊢
  refine c48.okS hN (by simp) (initS_sat ?_)
  rw [setO_self hob]
  simp
  obtain ⟨n, hn⟩ : ∃ n, D.length = n := ⟨_, rfl⟩
  obtain ⟨RR, hRR⟩ : ∃ RR, isort lt D = RR := ⟨_, rfl⟩
  have same : ∀ D' : List (List T), isort lt D' = RR → (∀ x ∈ D', good x) ∧ D'.length = n := by
    intro D' h
    refine ⟨fun x hx => hrows x ?_, ?_⟩
    · have : x ∈ isort lt D' := by simpa using hx
      rw [h, ← hRR] at this
      simpa using this
    · have := isort_length (lt := lt) D'
      rw [h, ← hRR, isort_length] at this
      omega
  have same2 : ∀ (D' : List (List T)) (a b : Nat), isort lt D' = RR → a ≤ b → isort lt (sortAt lt D' a b) = RR := fun D' a b h hab => by rw [isort_sortAt hw hab, h]
  rw [hn, hRR]
  refine SatD.regSeq hΓ follows [0, 1, 2, 6] ?_
  simp [d48r0]
  refine SatD.regSeq hΓ follows [0, 1, 2, 6, 7, 8] ?_
  simp [d48r1]
  refine SatD.seq ?_
  refine SatD.block ?_ -- 0
  refine SatD.loop (fun y : KD => ⟨DM.look [(0, .aref r ver), (1, .v (ti n)), (2, .v (.fn (.func 36) [])), (6, .v (ti 20)), (7, .v (ti ((20 * y.k : Nat) : Int))), (8, .v (ti ((20 * y.k + 20 : Nat) : Int)))], setO objs r (.arr ver e 5 y.D), N + 1000, N, []⟩)
    (fun y => 20 * y.k ≤ n ∧ isort lt y.D = RR ∧ Blocks lt y.D 20 (fun j => j < y.k)) (fun y => n - 20 * y.k) ⟨0, D⟩ ?_ ⟨by simp, hRR, fun j hj => by simp at hj⟩ (fun y hy => ?_)
  · exact Le.same (hfr _) (by simp)
  obtain ⟨k, D1⟩ := y
  obtain ⟨hk, hs, hb⟩ := hy
  simp only at hk hs hb ⊢
  obtain ⟨g1, l1⟩ := same D1 hs
  refine SatD.seq ?_
  obtain ⟨a, ha⟩ : ∃ a, 20 * k = a := ⟨_, rfl⟩
  rw [ha] at hk ⊢
  refine SatD.regSeq hΓ follows [0, 1, 2, 6, 7, 8, 13] ?_
  simp [d48r2]
  refine SatD.cond rfl (fun h => ?_) (fun h => ?_)
  · simp at h
    refine SatD.skip ?_
    simp
    refine SatD.block ?_ -- 1
    refine SatD.regASeq hΓ follows (rs := d48r3S) (.inr ⟨_, rfl⟩) (by kernel_rfl) [0, 1, 2, 6, 8] ?_
    simp [d48r3S, Γ48, k49, hlt]
    refine ⟨⟨g1, by omega, by omega⟩, ?_⟩
    refine SatD.regSeq hΓ follows [0, 1, 2, 6, 7, 8] ?_
    simp [d48r4]
    refine SatD.reg hΓ follows [0, 1, 2, 6, 7, 8] ?_
    simp [d48r5]
    refine ⟨⟨k + 1, sortAt lt D1 a (a + 20)⟩, ?_, ⟨by simp only; omega, same2 _ _ _ hs (by omega), fun j hj => ?_⟩, by simp only; omega⟩
    · have : ((a : Int) + 20).toNat = a + 20 := by omega
      simp only [this]
      refine Le.same (hfr _) ?_
      simp
      rw [wrap_id (by omega)]
      omega
    · simp only at hj
      by_cases e : j = k
      · subst e
        rw [show j * 20 = a by omega, seg_sortAt_self (by omega) (by omega)]
        exact isort_sorted hw _
      · rw [seg_sortAt_other (by omega) (by omega) (.inl (by omega))]
        exact hb j (by omega)
  simp at h
  refine SatD.exit ?_
  simp
  refine SatD.regASeq hΓ follows (rs := d48r6S) (.inr ⟨_, rfl⟩) (by kernel_rfl) [0, 1, 2, 6] ?_
  simp [d48r6S, Γ48, k49, hlt]
  refine ⟨⟨g1, by omega, by omega⟩, ?_⟩
  obtain ⟨D2, hD2⟩ : ∃ D2, sortAt lt D1 a n = D2 := ⟨_, rfl⟩
  rw [hD2]
  have hs2 : isort lt D2 = RR := by rw [← hD2]; exact same2 _ _ _ hs (by omega)
  have l2 : D2.length = n := (same D2 hs2).2
  have hb2 : Blocks lt D2 20 (fun _ => True) := by
    intro j _
    by_cases e : j * 20 < a
    · rw [← hD2, seg_sortAt_other (by omega) (by omega) (.inl (by omega))]
      exact hb j (by omega)
    · by_cases e2 : j * 20 = a
      · rw [e2, seg_end (by omega), ← seg_end (i := a) (j := n) (by omega), ← hD2, seg_sortAt_self (by omega) (by omega)]
        exact isort_sorted hw _
      · have : seg D2 (j * 20) (j * 20 + 20) = [] := List.eq_nil_of_length_eq_zero (by simp; omega)
        rw [this]; exact List.Pairwise.nil
  clear hD2 hb hs g1 l1
  refine SatD.block ?_ -- 2
  refine SatD.loop (fun y : BD => ⟨DM.look [(0, .aref r ver), (1, .v (ti n)), (2, .v (.fn (.func 36) [])), (6, .v (ti y.b))], setO objs r (.arr ver e 5 y.D), N + 1000, N, []⟩)
    (fun y => 0 < y.b ∧ isort lt y.D = RR ∧ Blocks lt y.D y.b (fun _ => True)) (fun y => n - y.b) ⟨20, D2⟩ ?_ ⟨by simp, hs2, hb2⟩ (fun y hy => ?_)
  · exact Le.same (hfr _) (by simp)
  obtain ⟨bs, D3⟩ := y
  obtain ⟨hbs, hs3, hb3⟩ := hy
  simp only at hbs hs3 hb3 ⊢
  obtain ⟨g3, l3⟩ := same D3 hs3
  refine SatD.seq ?_
  refine SatD.regSeq hΓ follows [0, 1, 2, 6, 30] ?_
  simp [d48r7]
  refine SatD.cond rfl (fun h2 => ?_) (fun h2 => ?_)
  · simp at h2
    have w1 : IntKind.i64.wrap (2 * (bs : Int)) = ((2 * bs : Nat) : Int) := by rw [wrap_id (by omega)]; omega
    refine SatD.skip ?_
    simp
    refine SatD.block ?_ -- 3
    refine SatD.regSeq hΓ follows [0, 1, 2, 6, 7, 8] ?_
    simp [d48r8, w1]
    refine SatD.seq ?_
    refine SatD.block ?_ -- 4
    refine SatD.loop (fun y : KD => ⟨DM.look [(0, .aref r ver), (1, .v (ti n)), (2, .v (.fn (.func 36) [])), (6, .v (ti bs)), (7, .v (ti ((y.k * (2 * bs) : Nat) : Int))), (8, .v (ti ((y.k * (2 * bs) + 2 * bs : Nat) : Int)))], setO objs r (.arr ver e 5 y.D), N + 1000, N, []⟩)
      (fun y => y.k * (2 * bs) ≤ n ∧ isort lt y.D = RR ∧ Blocks lt y.D (2 * bs) (fun j => j < y.k) ∧ Blocks lt y.D bs (fun j => y.k * (2 * bs) ≤ j * bs)) (fun y => n - y.k * (2 * bs)) ⟨0, D3⟩ ?_ ⟨by simp, hs3, fun j hj => by simp at hj, fun j _ => hb3 j trivial⟩ (fun y hy => ?_)
    · exact Le.same (hfr _) (by simp)
    obtain ⟨k, D4⟩ := y
    obtain ⟨hk, hs4, hb4, hc4⟩ := hy
    simp only at hk hs4 hb4 hc4 ⊢
    obtain ⟨g4, l4⟩ := same D4 hs4
    have e2 : 2 * k * bs = k * (2 * bs) := by rw [Nat.mul_comm 2 k, Nat.mul_assoc]
    have e3 : (2 * k + 1) * bs = k * (2 * bs) + bs := by rw [Nat.add_mul, e2, Nat.one_mul]
    have hA := hc4 (2 * k) (by simp only; omega)
    have hB := hc4 (2 * k + 1) (by simp only; omega)
    rw [e2] at hA
    rw [e3] at hB
    obtain ⟨a, ha⟩ : ∃ a, k * (2 * bs) = a := ⟨_, rfl⟩
    simp only [ha] at hk hA hB hc4 ⊢
    refine SatD.seq ?_
    refine SatD.regSeq hΓ follows [0, 1, 2, 6, 7, 8, 35] ?_
    simp [d48r9]
    refine SatD.cond rfl (fun h3 => ?_) (fun h3 => ?_)
    · simp at h3
      have w2 : IntKind.i64.wrap ((a : Int) + bs) = ((a + bs : Nat) : Int) := by rw [wrap_id (by omega)]; omega
      refine SatD.skip ?_
      simp
      refine SatD.block ?_ -- 5
      refine SatD.regASeq hΓ follows (rs := d48r10S) (.inr ⟨_, rfl⟩) (by kernel_rfl) [0, 1, 2, 6, 8] ?_
      have tn : ((a : Int) + 2 * (bs : Int)).toNat = a + 2 * bs := by omega
      simp [d48r10S, Γ48, k50, hlt, w2, tn]
      refine ⟨⟨g4, by omega, by omega, by omega, by omega, by omega, hA, by rw [show a + 2 * bs = a + bs + bs by omega]; exact hB⟩, ?_⟩
      refine SatD.regSeq hΓ follows [0, 1, 2, 6, 7, 8] ?_
      simp [d48r11]
      refine SatD.reg hΓ follows [0, 1, 2, 6, 7, 8] ?_
      simp [d48r12, w1]
      have e4 : (k + 1) * (2 * bs) = a + 2 * bs := by rw [Nat.add_mul, ha, Nat.one_mul]
      refine ⟨⟨k + 1, sortAt lt D4 a (a + 2 * bs)⟩, ?_, ⟨by simp only [e4]; omega, same2 _ _ _ hs4 (by omega), fun j hj => ?_, fun j hj => ?_⟩, by simp only [e4]; omega⟩
      · simp only [e4]
        refine Le.same (hfr _) ?_
        have e4' : ((k : Int) + 1) * (2 * (bs : Int)) = (a : Int) + 2 * bs := by exact_mod_cast e4
        simp [e4']
        rw [wrap_id (by omega)]
      · simp only at hj
        by_cases e : j = k
        · subst e
          rw [ha, seg_sortAt_self (by omega) (by omega)]
          exact isort_sorted hw _
        · have := mul_lt_of (bs := 2 * bs) (show j < k by omega)
          rw [seg_sortAt_other (by omega) (by omega) (.inl (by omega))]
          exact hb4 j (by simp only; omega)
      · simp only [e4] at hj
        rw [seg_sortAt_other (by omega) (by omega) (.inr (by omega))]
        exact hc4 j (by simp only; omega)
    · simp at h3
      refine SatD.exit ?_
      simp
      have w2 : IntKind.i64.wrap ((a : Int) + bs) = ((a + bs : Nat) : Int) := by rw [wrap_id (by omega)]; omega
      refine SatD.seq ?_
      refine SatD.regSeq hΓ follows [0, 1, 2, 6, 7, 9] ?_
      simp [d48r13, w2]
      refine SatD.regSeq hΓ follows [0, 1, 2, 6, 7, 9, 54] ?_
      simp [d48r14]
      obtain ⟨D5, hD5⟩ : ∃ D5, (if a + bs < n then sortAt lt D4 a n else D4) = D5 := ⟨_, rfl⟩
      have hs5 : isort lt D5 = RR := by
        rw [← hD5]
        split
        · exact same2 _ _ _ hs4 (by omega)
        · exact hs4
      have l5 : D5.length = n := (same D5 hs5).2
      have hb5 : Blocks lt D5 (2 * bs) (fun _ => True) := by
        intro j _
        by_cases e : j < k
        · have := mul_lt_of (bs := 2 * bs) e
          rw [← hD5]
          split
          · rw [seg_sortAt_other (by omega) (by omega) (.inl (by omega))]; exact hb4 j e
          · exact hb4 j e
        · by_cases e5 : j = k
          · subst e5
            rw [ha, seg_end (by omega)]
            rw [← seg_end (i := a) (j := n) (by omega), ← hD5]
            split
            · rw [seg_sortAt_self (by omega) (by omega)]; exact isort_sorted hw _
            · rw [seg_end (by omega), ← seg_end (i := a) (j := a + bs) (by omega)]; exact hA
          · have := mul_lt_of (bs := 2 * bs) (show k < j by omega)
            have : seg D5 (j * (2 * bs)) (j * (2 * bs) + 2 * bs) = [] := List.eq_nil_of_length_eq_zero (by simp; omega)
            rw [this]; exact List.Pairwise.nil
      refine SatD.to ⟨DM.look [(0, .aref r ver), (1, .v (ti n)), (2, .v (.fn (.func 36) [])), (6, .v (ti bs))], setO objs r (.arr ver e 5 D5), N + 1000, N, []⟩ ?_ ?_
      · refine SatD.cond rfl (fun h5 => ?_) (fun h5 => ?_)
        · simp at h5
          refine SatD.regA hΓ follows (rs := d48r15S) (.inr ⟨_, rfl⟩) (by kernel_rfl) [0, 1, 2, 6] ?_
          have tn : ((a : Int) + (bs : Int)).toNat = a + bs := by omega
          simp [d48r15S, Γ48, k50, hlt, tn]
          refine ⟨⟨g4, by omega, by omega, by omega, by omega, by omega, hA, ?_⟩, ?_⟩
          · rw [seg_end (by omega), ← seg_end (i := a + bs) (j := a + bs + bs) (by omega)]; exact hB
          · rw [if_pos (by omega)] at hD5
            rw [hD5]
            exact Le.same (hfr _) (by simp)
        · simp at h5
          rw [if_neg (by omega)] at hD5
          rw [hD5]
          refine SatD.skip ⟨rfl, ?_⟩
          exact Le.same (hfr _) (by simp)
      · simp
        refine SatD.reg hΓ follows [0, 1, 2, 6] ?_
        simp [d48r16]
        refine ⟨⟨2 * bs, D5⟩, ?_, ⟨by simp only; omega, hs5, hb5⟩, by simp only; omega⟩
        refine Le.same (hfr _) ?_
        simp
        rw [wrap_id (by omega)]; omega
  · simp at h2
    have : D3 = RR := by
      rw [← hs3]
      refine (isort_of_sorted hw ?_).symm
      have := hb3 0 trivial
      rw [Nat.zero_mul, Nat.zero_add, seg_end (by omega), List.drop_zero] at this
      exact this
    refine SatD.exit ?_
    simp [d48res, this]
end Go.Proofs
namespace Go.Proofs
open Go.DM Go.DM.Srt
set_option linter.unusedSimpArgs false
set_option linter.unusedVariables false

theorem t48n {good : List T → Prop} {cmpF : List T → List T → Int} (hc : CmpOk good cmpF 36 5) (hw : SWO (ltF cmpF)) (objs : Obs) (f : Nat) {N : Nat} (hN : ∀ r, N ≤ r → objs r = none) :
    CallsS Try.prog 48 [.nil0, .v (ti 0), .v (.fn (.func f) [])] objs ⟨True, .v (.tup []), objs⟩ := by
  have hΓ := ok49 hc hw 0
  have hfr : ∀ k, N + 1000 ≤ k → objs k = none := fun k hk => hN k (by omega)
  refine c48.okS hN (by simp) (initS_sat ?_)
  simp
  refine SatD.regSeq hΓ follows [0, 1, 2, 6] ?_
  simp [d48r0]
  refine SatD.regSeq hΓ follows [0, 1, 2, 6, 7, 8] ?_
  simp [d48r1]
  refine SatD.seq ?_
  refine SatD.block ?_ -- 0
  refine SatD.loop (fun y : Nat => ⟨DM.look [(0, .nil0), (1, .v (ti 0)), (2, .v (.fn (.func f) [])), (6, .v (ti 20)), (7, .v (ti 0)), (8, .v (ti 20))], objs, N + 1000, N, []⟩) (fun _ => True) (fun _ => 0) 0 (Le.same hfr (by simp)) trivial (fun y hy => ?_)
  refine SatD.seq ?_
  refine SatD.regSeq hΓ follows [0, 1, 2, 6, 7, 13] ?_
  simp [d48r2]
  refine SatD.cond rfl (fun h => by cases h) (fun _ => ?_)
  refine SatD.exit ?_
  simp
  refine SatD.regASeq hΓ follows (rs := d48r6S) (.inr ⟨_, rfl⟩) (by kernel_rfl) [1, 6] ?_
  simp [d48r6S, Γ48, k49]
  refine SatD.block ?_ -- 2
  refine SatD.loop (fun y : Nat => ⟨DM.look [(1, .v (ti 0)), (6, .v (ti 20))], objs, N + 1000, N, []⟩) (fun _ => True) (fun _ => 0) 0 (Le.same hfr (by simp)) trivial (fun y hy => ?_)
  refine SatD.seq ?_
  refine SatD.regSeq hΓ follows [30] ?_
  simp [d48r7]
  refine SatD.cond rfl (fun h => by cases h) (fun _ => ?_)
  refine SatD.exit ?_
  simp [d48res]

def k48 (good : List T → Prop) (cmpF : List T → List T → Int) : List DV → Obs → SRes
  | [.aref r ver, .v (.int .i64 n), .v (.fn (.func c) caps)], objs => match objs r with
    | some (.arr ver' e sz D) => ⟨ver = ver' ∧ sz = 5 ∧ c = 36 ∧ caps = [] ∧ (∀ x ∈ D, good x) ∧ n = D.length ∧ D.length ≤ 140737488355328,
        .v (.tup []), setO objs r (.arr ver e 5 (isort (ltF cmpF) D))⟩
    | _ => ⟨False, .undef, objs⟩
  | [.nil0, .v (.int .i64 n), .v (.fn (.func c) caps)], objs => ⟨n = 0 ∧ caps = [], .v (.tup []), objs⟩
  | _, objs => ⟨False, .undef, objs⟩
theorem ok48 {good : List T → Prop} {cmpF : List T → List T → Int} (hc : CmpOk good cmpF 36 5) (hw : SWO (ltF cmpF)) : EnvOk Try.prog (envOf [(48, specS (k48 good cmpF))]) := by
  refine EnvOk.consS EnvOk.nil ?_
  intro args objs h
  unfold k48 at h ⊢
  split at h
  · split at h
    · rename_i c caps _ ver' e sz D hob
      obtain ⟨rfl, rfl, rfl, rfl, h1, rfl, h5⟩ := h
      refine ⟨fun N hN => ?_, fun k hk => setO_none hob hk⟩
      simp only [hob]
      exact (t48 hc hw D objs _ _ e hob h1 h5 hN).of rfl rfl
    · exact h.elim
  · obtain ⟨rfl, rfl⟩ := h
    exact ⟨fun N hN => (t48n hc hw objs _ hN).of rfl rfl, fun _ h => h⟩
  · exact h.elim

def k35 (good : List T → Prop) (cmpF : List T → List T → Int) : List DV → Obs → SRes
  | [.aref r ver, .v (.fn (.func c) caps)], objs => match objs r with
    | some (.arr ver' e sz D) => ⟨ver = ver' ∧ sz = 5 ∧ c = 36 ∧ caps = [] ∧ (∀ x ∈ D, good x) ∧ D.length ≤ 140737488355328,
        .v (.tup []), setO objs r (.arr ver e 5 (isort (ltF cmpF) D))⟩
    | _ => ⟨False, .undef, objs⟩
  | [.nil0, .v (.fn (.func c) caps)], objs => ⟨caps = [], .v (.tup []), objs⟩
  | _, objs => ⟨False, .undef, objs⟩
theorem t35 {good : List T → Prop} {cmpF : List T → List T → Int} (hc : CmpOk good cmpF 36 5) (hw : SWO (ltF cmpF)) (D : List (List T)) (objs : Obs) (r ver e : Nat) (hob : objs r = some (.arr ver e 5 D)) (hrows : ∀ x ∈ D, good x) (h4 : D.length ≤ 140737488355328)
    {N : Nat} (hN : ∀ r, N ≤ r → objs r = none) : CallsS Try.prog 35 [.aref r ver, .v (.fn (.func 36) [])] objs ⟨True, .v (.tup []), setO objs r (.arr ver e 5 (isort (ltF cmpF) D))⟩ := by
  have hΓ := ok48 hc hw
  refine c35.okS hN (by simp) (initS_sat ?_)
  rw [setO_self hob]
  simp
  refine SatD.regA hΓ follows (rs := d35r0S) (.inr ⟨_, rfl⟩) (by kernel_rfl) [] ?_
  simp [d35r0S, k48, d35res]
  exact ⟨hrows, h4⟩
theorem t35n {good : List T → Prop} {cmpF : List T → List T → Int} (hc : CmpOk good cmpF 36 5) (hw : SWO (ltF cmpF)) (objs : Obs) (f : Nat) {N : Nat} (hN : ∀ r, N ≤ r → objs r = none) : CallsS Try.prog 35 [.nil0, .v (.fn (.func f) [])] objs ⟨True, .v (.tup []), objs⟩ := by
  have hΓ := ok48 hc hw
  refine c35.okS hN (by simp) (initS_sat ?_)
  simp
  refine SatD.regA hΓ follows (rs := d35r0S) (.inr ⟨_, rfl⟩) (by kernel_rfl) [] ?_
  simp [d35r0S, k48, d35res]
theorem ok35 {good : List T → Prop} {cmpF : List T → List T → Int} (hc : CmpOk good cmpF 36 5) (hw : SWO (ltF cmpF)) {l : List (Nat × DM.Spec)} (h : EnvOk Try.prog (envOf l)) : EnvOk Try.prog (envOf ((35, specS (k35 good cmpF)) :: l)) := by
  refine EnvOk.consS h ?_
  intro args objs h
  unfold k35 at h ⊢
  split at h
  · split at h
    · rename_i c caps _ ver' e sz D hob
      obtain ⟨rfl, rfl, rfl, rfl, h1, h5⟩ := h
      refine ⟨fun N hN => ?_, fun k hk => setO_none hob hk⟩
      simp only [hob]
      exact (t35 hc hw D objs _ _ e hob h1 h5 hN).of rfl rfl
    · exact h.elim
  · subst h
    exact ⟨fun N hN => (t35n hc hw objs _ hN).of rfl rfl, fun _ h => h⟩
  · exact h.elim
end Go.Proofs
namespace Go.Proofs
open Go.DM Go.DM.Srt
set_option linter.unusedSimpArgs false
set_option linter.unusedVariables false

def goodE (x : List T) : Prop := ∃ e : Edge, x = e.enc ∧ 0 ≤ e.head ∧ e.head ≤ 1000000000000
def keyE (x : List T) : Int := unti (x.getD 0 (ti 0))
def cmpE (x y : List T) : Int := keyE x - keyE y
theorem keyE_enc (e : Edge) : keyE e.enc = e.head := rfl
theorem cmpOkE : CmpOk goodE cmpE 36 5 := by
  refine ⟨?_, ?_⟩
  · rintro x y ⟨a, rfl, h1, h2⟩ ⟨b, rfl, h3, h4⟩
    exact t36 a b ⟨h1, h2⟩ ⟨h3, h4⟩
  · rintro x ⟨a, rfl, _⟩
    refine ⟨rfl, ?_⟩
    intro t ht
    simp only [Edge.enc, List.mem_cons, List.not_mem_nil, or_false] at ht
    rcases ht with rfl | rfl | rfl | rfl | rfl <;> rfl
theorem swoE : SWO (ltF cmpE) := by
  have hlt : ∀ x y, ltF cmpE x y = decide (keyE x < keyE y) := fun x y => decide_eq_decide.2 (by unfold cmpE; omega)
  refine ⟨fun x => ?_, fun x y z h1 h2 => ?_, fun x y z h1 h2 => ?_⟩ <;> simp only [hlt, decide_eq_true_eq, decide_eq_false_iff_not] at * <;> omega

/-- The stable sort goes through a map. -/
theorem insR_map {α β : Type} {lt : β → β → Bool} {lt' : α → α → Bool} {f : α → β} (h : ∀ a b, lt (f a) (f b) = lt' a b) (x : α) : ∀ l : List α, insR lt (f x) (l.map f) = (insR lt' x l).map f
  | [] => rfl
  | y :: l => by
    simp only [List.map_cons, insR, h]
    split
    · simp [insR_map h x l]
    · simp
theorem isort_map {α β : Type} {lt : β → β → Bool} {lt' : α → α → Bool} {f : α → β} (h : ∀ a b, lt (f a) (f b) = lt' a b) (l : List α) : isort lt (l.map f) = (isort lt' l).map f := by
  unfold isort isortR
  rw [List.map_reverse]
  congr 1
  suffices ∀ (l acc : List α), List.foldl (fun acc x => insR lt x acc) (acc.map f) (l.map f) = (List.foldl (fun acc x => insR lt' x acc) acc l).map f from this l []
  intro l
  induction l with
  | nil => intro acc; rfl
  | cons x l ih => intro acc; rw [List.map_cons, List.foldl_cons, List.foldl_cons, insR_map h, ih]

def ltH (a b : Edge) : Bool := decide (a.head < b.head)
theorem isort_edges (l : List Edge) : isort (ltF cmpE) (edgesT l) = edgesT (isort ltH l) := by
  refine isort_map (fun a b => ?_) l
  simp only [ltF, cmpE, keyE_enc, ltH]
  exact decide_eq_decide.2 (by omega)

def spanL (nt st : Int) (rules : List Rule) (arcs : List Arc) (f t : Int) (k : Nat) : List Edge := (List.range k).flatMap fun k => inst nt st (rules.getD k default) arcs f t k
def spanE (nt st : Int) (rules : List Rule) (arcs : List Arc) (f t : Int) : List Edge := isort ltH (spanL nt st rules arcs f t rules.length)
/-- The hyperedges of the spans (f, f) .. (f, t - 1). -/
def rowL (nt st : Int) (rules : List Rule) (arcs : List Arc) (f t : Nat) : List Edge := ((List.range t).drop f).flatMap fun t : Nat => spanE nt st rules arcs f t
def allL (nt st : Int) (rules : List Rule) (arcs : List Arc) (f : Nat) : List Edge := (List.range f).flatMap fun f => rowL nt st rules arcs f st.toNat
def finE (nt st start : Int) (fin : List Int) (t : Nat) : List Edge := if fin.getD t default < Inf then [⟨goalI nt st, [idxI nt st start 0 t], fin.getD t default, -1, t⟩] else []
def finL (nt st start : Int) (fin : List Int) (k : Nat) : List Edge := (List.range k).flatMap (finE nt st start fin)
def hyper (n : Normal) (l : Lattice) : List Edge := allL n.nonterms l.states n.rules l.arcs l.states.toNat ++ finL n.nonterms l.states n.start l.final l.final.length

theorem spanL_succ (nt st : Int) (rules : List Rule) (arcs : List Arc) (f t : Int) (k : Nat) : spanL nt st rules arcs f t (k + 1) = spanL nt st rules arcs f t k ++ inst nt st (rules.getD k default) arcs f t k := by
  simp [spanL, List.range_succ]
theorem rowL_succ (nt st : Int) (rules : List Rule) (arcs : List Arc) (f t : Nat) (h : f ≤ t) : rowL nt st rules arcs f (t + 1) = rowL nt st rules arcs f t ++ spanE nt st rules arcs f t := by
  unfold rowL
  rw [List.range_succ, List.drop_append_of_le_length (by simpa using h)]
  simp
theorem rowL_self (nt st : Int) (rules : List Rule) (arcs : List Arc) (f : Nat) : rowL nt st rules arcs f f = [] := by simp [rowL]
theorem allL_succ (nt st : Int) (rules : List Rule) (arcs : List Arc) (f : Nat) : allL nt st rules arcs (f + 1) = allL nt st rules arcs f ++ rowL nt st rules arcs f st.toNat := by
  simp [allL, List.range_succ]
theorem finL_succ (nt st start : Int) (fin : List Int) (k : Nat) : finL nt st start fin (k + 1) = finL nt st start fin k ++ finE nt st start fin k := by
  simp [finL, List.range_succ]

/-- What the proof asks of a grammar and a lattice. -/
structure Fit (n : Normal) (l : Lattice) : Prop where
  sm : sm n.nonterms l.states
  start : 0 ≤ n.start ∧ n.start ≤ 1000
  rules : ∀ r ∈ n.rules, okR2 r
  nrules : n.rules.length ≤ 1000
  arcs : okArcs l.arcs
  narcs : l.arcs.length ≤ 10000
  nfin : l.final.length ≤ 1000
  small : l.states ≤ 100

def pre34 (ts : List T) : Prop := ∃ (n : Normal) (l : Lattice) (k : Nat) (f t : Int), ts = [n.enc, l.enc, ti k, ti f, ti t] ∧ k < n.rules.length
def fn34 : List T → T
  | [n, l, .int _ k, .int _ f, .int _ t] => .fn (.func 47) (caps47 (decN n).nonterms (decL l).states ((decN n).rules.getD k.toNat default) (decL l).arcs (decL l).final f t k)
  | _ => .bool false
def Γ11 : Env := envOf [(35, specS (k35 goodE cmpE)), (34, specP pre34 fn34 false), (32, spec32), (33, spec33), (37, spec37)]
theorem ok11 : EnvOk Try.prog Γ11 := by
  refine ok35 cmpOkE swoE (EnvOk.cons ok1 ?_)
  rintro ts ⟨n, l, k, f, t, rfl, hk⟩
  exact ⟨by simpa [fn34] using t34 n l k f t hk, fun h => by cases h⟩

theorem inst_length (nt st : Int) (r : Rule) (arcs : List Arc) (f t k : Int) (ha : arcs.length ≤ 10000) (hf : okF f t) : (inst nt st r arcs f t k).length ≤ 10000 := by
  unfold inst
  split
  · split <;> simp
  split
  · have : ∀ (l : List Nat) (g : Nat → List Edge), (∀ i, (g i).length ≤ 1) → (l.flatMap g).length ≤ l.length := by
      intro l g hg
      induction l with
      | nil => simp
      | cons x l ih => simp only [List.flatMap_cons, List.length_append, List.length_cons]; have := hg x; omega
    have := this (List.range arcs.length) _ (fun i => by split <;> simp : ∀ i, (if (arcs.getD i default).f = f ∧ (arcs.getD i default).t = t ∧ (arcs.getD i default).term = r.a then [edgeOf nt st r f t k (r.price + (arcs.getD i default).cost) i []] else []).length ≤ 1)
    simp only [List.length_range] at this
    omega
  split
  · simp
  split
  · simp; unfold okF at hf; omega
  · simp
theorem flat_length {β : Type} (g : Nat → List β) (c : Nat) : ∀ l : List Nat, (∀ i ∈ l, (g i).length ≤ c) → (l.flatMap g).length ≤ l.length * c
  | [], _ => by simp
  | x :: l, h => by
    simp only [List.flatMap_cons, List.length_append, List.length_cons]
    have := h x (by simp)
    have := flat_length g c l fun i hi => h i (by simp [hi])
    rw [Nat.add_mul]; omega
end Go.Proofs
namespace Go.Proofs
open Go.DM Go.DM.Srt
set_option linter.unusedSimpArgs false
set_option linter.unusedVariables false

theorem spanE_len {n : Normal} {l : Lattice} (h : Fit n l) {f t : Int} (hf : okF f t) : (spanE n.nonterms l.states n.rules l.arcs f t).length ≤ 10000000 := by
  unfold spanE
  rw [isort_length]
  have := flat_length (fun k => inst n.nonterms l.states (n.rules.getD k default) l.arcs f t k) 10000 (List.range n.rules.length) fun i _ => inst_length _ _ _ _ _ _ _ h.narcs hf
  have hn := h.nrules
  simp only [List.length_range] at this
  unfold spanL
  omega
theorem spanL_len {n : Normal} {l : Lattice} (h : Fit n l) {f t : Int} (hf : okF f t) (k : Nat) (hk : k ≤ n.rules.length) : (spanL n.nonterms l.states n.rules l.arcs f t k).length ≤ 10000000 := by
  have := flat_length (fun k => inst n.nonterms l.states (n.rules.getD k default) l.arcs f t k) 10000 (List.range k) fun i _ => inst_length _ _ _ _ _ _ _ h.narcs hf
  have hn := h.nrules
  simp only [List.length_range] at this
  unfold spanL
  omega
theorem rowL_len {n : Normal} {l : Lattice} (h : Fit n l) (f t : Nat) (ht : (t : Int) ≤ l.states) : (rowL n.nonterms l.states n.rules l.arcs f t).length ≤ 1000000000 := by
  have hs := h.small
  have := flat_length (fun t : Nat => spanE n.nonterms l.states n.rules l.arcs f t) 10000000 ((List.range t).drop f) fun i hi => spanE_len h (by
    rw [List.mem_iff_getElem] at hi
    obtain ⟨j, hj, rfl⟩ := hi
    simp only [List.length_drop, List.length_range] at hj
    rw [List.getElem_drop, List.getElem_range]
    unfold okF; omega)
  simp only [List.length_drop, List.length_range] at this
  unfold rowL
  have : (t - f) * 10000000 ≤ 100 * 10000000 := Nat.mul_le_mul_right _ (by omega)
  omega
theorem allL_len {n : Normal} {l : Lattice} (h : Fit n l) (f : Nat) (hf : (f : Int) ≤ l.states) : (allL n.nonterms l.states n.rules l.arcs f).length ≤ 100000000000 := by
  have hs := h.small
  have h1 := h.sm.2.2.1
  have := flat_length (fun f => rowL n.nonterms l.states n.rules l.arcs f l.states.toNat) 1000000000 (List.range f) fun i _ => rowL_len h i _ (by omega)
  simp only [List.length_range] at this
  unfold allL
  have : f * 1000000000 ≤ 100 * 1000000000 := Nat.mul_le_mul_right _ (by omega)
  omega
theorem finL_len {n : Normal} {l : Lattice} (h : Fit n l) (k : Nat) (hk : k ≤ l.final.length) : (finL n.nonterms l.states n.start l.final k).length ≤ 1000 := by
  have := flat_length (finE n.nonterms l.states n.start l.final) 1 (List.range k) fun i _ => by unfold finE; split <;> simp
  have := h.nfin
  simp only [List.length_range] at *
  unfold finL
  omega

@[simp] theorem chunk_1 (sz : Nat) (cs : List T) : chunk sz 1 cs = [cs.take sz] := rfl
/-- The cells of a value handed over. -/
def rowOf : List T → List T
  | [.agg c] => c
  | _ => []
theorem rowOf_yields (es : List Edge) : (yieldsOf es).map rowOf = edgesT es := by
  simp [yieldsOf, edgesT, rowOf]

theorem inst_head {nt st : Int} {r : Rule} {arcs : List Arc} {f t k : Int} {e : Edge} (he : e ∈ inst nt st r arcs f t k) : e.head = idxI nt st r.head f t := by
  unfold inst at he
  split at he
  · split at he
    · simp only [List.mem_singleton] at he; subst he; rfl
    · cases he
  split at he
  · simp only [List.mem_flatMap] at he
    obtain ⟨i, _, he⟩ := he
    split at he
    · simp only [List.mem_singleton] at he; subst he; rfl
    · cases he
  split at he
  · simp only [List.mem_singleton] at he; subst he; rfl
  split at he
  · simp only [List.mem_map] at he
    obtain ⟨j, _, rfl⟩ := he
    rfl
  · cases he
theorem idx_range {nt st h f t : Int} (hs : sm nt st) (hh : 0 ≤ h ∧ h ≤ 1000) (hf : 0 ≤ f) (hft : f ≤ t) (ht : t < st) : 0 ≤ idxI nt st h f t ∧ idxI nt st h f t ≤ 1000000000000 := by
  obtain ⟨h1, h2, h3, h4⟩ := hs
  rw [idx_eq hf]
  obtain ⟨p1, p2, p3⟩ := span_pos h4 hf hft ht
  have := mul_bound p1 (show spanI st f t ≤ 1000000 by omega) h1 h2
  omega
theorem spanL_good {n : Normal} {l : Lattice} (h : Fit n l) {f t : Int} (hf : 0 ≤ f) (hft : f ≤ t) (ht : t < l.states) (k : Nat) (hk : k ≤ n.rules.length) : ∀ x ∈ edgesT (spanL n.nonterms l.states n.rules l.arcs f t k), goodE x := by
  intro x hx
  simp only [edgesT, List.mem_map, spanL, List.mem_flatMap, List.mem_range] at hx
  obtain ⟨e, ⟨i, hi, he⟩, rfl⟩ := hx
  have hr := h.rules (n.rules.getD i default) (by simp [show i < n.rules.length by omega])
  have := idx_range h.sm ⟨hr.1.1, hr.1.2.1⟩ hf hft ht
  rw [← inst_head he] at this
  exact ⟨e, rfl, this.1, this.2⟩

set_option maxRecDepth 20000 in
set_option maxHeartbeats 4000000 in
theorem t11 (n : Normal) (l : Lattice) (h : Fit n l) : CallsOk Try.prog 11 [n.enc, l.enc] (.agg [ti (goalI n.nonterms l.states + 1), .sl (edgesT (hyper n l))]) := by
  have hΓ := ok11
  have hsm := h.sm
  have hgoal : 0 ≤ goalI n.nonterms l.states ∧ goalI n.nonterms l.states ≤ 1001000000 := by
    obtain ⟨h1, h2, h3, h4⟩ := hsm
    have b1 := mul_bound h1 h2 h3 h4
    have b2 := mul_bound b1.1 b1.2 (b := l.states + 1) (n := 1001) (by omega) (by omega)
    unfold goalI
    omega
  refine c11.ok (by simp) (initSt_sat ?_)
  simp [Normal.enc, Lattice.enc]
  refine SatD.regSeq hΓ follows [2, 3, 4] ?_
  simp [d11r0]
  refine SatD.regSeq hΓ follows [2, 3, 4, 5] ?_
  simp [d11r1, Γ11, spec32, fn32, pre32]
  refine ⟨⟨⟨n, rfl⟩, ⟨l, rfl⟩⟩, ?_⟩
  refine SatD.regSeq hΓ follows [2, 3, 4, 5, 6] ?_
  simp [d11r2, Γ11, spec33, fn33, pre33]
  refine ⟨hsm, ?_⟩
  rw [wrap_id (by omega)]
  obtain ⟨tn, htn⟩ : ∃ tn, T.box [ti n.terms, ti n.nonterms, ti n.start, .sl (rulesT n.rules)] = tn := ⟨_, rfl⟩
  obtain ⟨tl, htl⟩ : ∃ tl, T.box [ti l.states, .sl (arcsT l.arcs), .sl (intsT l.final)] = tl := ⟨_, rfl⟩
  obtain ⟨gl, hgl⟩ : ∃ gl, goalI n.nonterms l.states = gl := ⟨_, rfl⟩
  rw [hgl] at hgoal ⊢
  refine SatD.le (Le.keep (o := [(1185, .box [.v (ti (gl + 1)), .nil0]), (1005, .box [.v (ti 0), .nil0])]) (l := [(2, .v tn), (3, .v tl), (4, .ptr 1005 0), (5, .v (.box [ti n.nonterms, ti l.states])), (6, .ptr 1185 0)]) (nxt' := 2000) ?_ ?_ ?_ ?_) ?_
  · simp
  · simp
  · simp
  · simp [← htn, ← htl]
  refine SatD.le (Le.nilCell 1185 1 47 (sz := 5) (by omega) (cs := [.v (ti (gl + 1)), .nil0]) (by simp) (by simp)) ?_
  simp only [setO_obs, List.set_cons_succ, List.set_cons_zero]
  have hS : (l.states.toNat : Int) = l.states := by have := hsm.2.2.1; omega
  have hsmall := h.small
  refine SatD.seq ?_
  refine SatD.regSeq hΓ follows [2, 3, 4, 5, 6, 22, 23] ?_
  simp [d11r3, ← htl]
  rw [htl]
  refine SatD.block ?_ -- 0
  refine SatD.loop (fun f : Nat => ⟨DM.look [(2, .v tn), (3, .v tl), (4, .ptr 1005 0), (5, .v (.box [ti n.nonterms, ti l.states])), (6, .ptr 1185 0), (22, .v (ti l.states)), (23, .v (ti f))], obs [(1185, .box [.v (ti (gl + 1)), .aref 2000 0]), (2000, .arr 0 47 5 (edgesT (allL n.nonterms l.states n.rules l.arcs f))), (1005, .box [.v (ti 0), .nil0])], 3000, 1000, []⟩)
    (fun f => (f : Int) ≤ l.states) (fun f => l.states.toNat - f) 0 (Le.keep ?_ ?_ ?_ ?_) (by simp; exact hsm.2.2.1) (fun f hf => ?_)
  · simp
  · simp
  · simp [allL, edgesT]
  · simp
  refine SatD.regSeq hΓ follows [2, 3, 4, 5, 6, 22, 23, 24] ?_
  simp [d11r4]
  refine SatD.seq ?_
  refine SatD.cond rfl (fun hc => ?_) (fun hc => ?_)
  · simp at hc
    refine SatD.skip ?_
    simp
    refine SatD.seq ?_
    refine SatD.block ?_ -- 1
    refine SatD.regSeq hΓ follows [2, 3, 4, 5, 6, 7, 22, 23] ?_
    simp [d11r5]
    refine SatD.regSeq hΓ follows [2, 3, 4, 5, 6, 7, 8, 22, 23] ?_
    simp [d11r6]
    refine SatD.block ?_ -- 2
    obtain ⟨es0, hes0⟩ : ∃ es0, allL n.nonterms l.states n.rules l.arcs f = es0 := ⟨_, rfl⟩
    have les0 : es0.length ≤ 100000000000 := by rw [← hes0]; exact allL_len h f hf
    refine SatD.loop (fun t : Nat => ⟨DM.look [(2, .v tn), (3, .v tl), (4, .ptr 1005 0), (5, .v (.box [ti n.nonterms, ti l.states])), (6, .ptr 1185 0), (7, .v (ti f)), (8, .v (ti t)), (22, .v (ti l.states)), (23, .v (ti f))], obs [(1185, .box [.v (ti (gl + 1)), .aref 2000 0]), (2000, .arr 0 47 5 (edgesT (es0 ++ rowL n.nonterms l.states n.rules l.arcs f t))), (1005, .box [.v (ti 0), .nil0])], 4000, 1000, []⟩)
      (fun t => f ≤ t ∧ (t : Int) ≤ l.states) (fun t => l.states.toNat - t) f (Le.keep ?_ ?_ ?_ ?_) ⟨Nat.le_refl _, hf⟩ (fun t ht => ?_)
    · simp
    · simp
    · simp [rowL_self, hes0]
    · simp
    obtain ⟨ht1, ht2⟩ := ht
    refine SatD.seq ?_
    refine SatD.regSeq hΓ follows [2, 3, 4, 5, 6, 7, 8, 22, 23, 30] ?_
    simp [d11r7, ← htl]
    rw [htl]
    refine SatD.cond rfl (fun hd => ?_) (fun hd => ?_)
    · simp at hd
      have hokf : okF f t := ⟨by omega, by omega, by omega⟩
      refine SatD.skip ?_
      simp
      refine SatD.seq ?_
      refine SatD.block ?_ -- 3
      refine SatD.regSeq hΓ follows [2, 3, 4, 5, 6, 7, 8, 9, 22, 23] ?_
      simp [d11r8]
      refine SatD.le (Le.nilCell 4099 0 47 (sz := 5) (by omega) (cs := [.nil0]) (by simp) (by simp)) ?_
      simp only [setO_obs, List.set_cons_succ, List.set_cons_zero]
      obtain ⟨es1, hes1⟩ : ∃ es1, es0 ++ rowL n.nonterms l.states n.rules l.arcs f t = es1 := ⟨_, rfl⟩
      have les1 : es1.length ≤ 101000000000 := by
        rw [← hes1, List.length_append]
        have := rowL_len h f t ht2
        omega
      rw [hes1]
      refine SatD.seq ?_
      refine SatD.regSeq hΓ follows [2, 3, 4, 5, 6, 7, 8, 9, 22, 23, 35, 36] ?_
      simp [d11r9, ← htn]
      rw [htn]
      refine SatD.block ?_ -- 4
      refine SatD.loop (fun k : Nat => ⟨DM.look [(2, .v tn), (3, .v tl), (4, .ptr 1005 0), (5, .v (.box [ti n.nonterms, ti l.states])), (6, .ptr 1185 0), (7, .v (ti f)), (8, .v (ti t)), (9, .ptr 4099 0), (22, .v (ti l.states)), (23, .v (ti f)), (35, .v (ti n.rules.length)), (36, .v (ti k))],
          obs [(4099, .box [.aref 4178 0]), (4178, .arr 0 47 5 (edgesT (spanL n.nonterms l.states n.rules l.arcs f t k))), (1185, .box [.v (ti (gl + 1)), .aref 2000 0]), (2000, .arr 0 47 5 (edgesT es1)), (1005, .box [.v (ti 0), .nil0])], 5000, 1000, []⟩)
        (fun k => k ≤ n.rules.length) (fun k => n.rules.length - k) 0 (Le.keep ?_ ?_ ?_ ?_) (by simp) (fun k hk => ?_)
      · simp
      · simp
      · simp [spanL, edgesT]
      · simp
      have hnr := h.nrules
      refine SatD.regSeq hΓ follows [2, 3, 4, 5, 6, 7, 8, 9, 22, 23, 35, 36, 37] ?_
      simp [d11r10]
      refine SatD.seq ?_
      refine SatD.cond rfl (fun he => ?_) (fun he => ?_)
      · simp at he
        obtain ⟨es2, hes2⟩ : ∃ es2, spanL n.nonterms l.states n.rules l.arcs f t k = es2 := ⟨_, rfl⟩
        have les2 : es2.length ≤ 10000000 := by rw [← hes2]; exact spanL_len h hokf k (by omega)
        rw [hes2]
        obtain ⟨r, hr⟩ : ∃ r, n.rules.getD k default = r := ⟨_, rfl⟩
        have hr2 : okR2 r := h.rules r (by rw [← hr]; simp [he])
        obtain ⟨es3, hes3⟩ : ∃ es3, inst n.nonterms l.states r l.arcs f t k = es3 := ⟨_, rfl⟩
        have les3 : es3.length ≤ 10000 := by rw [← hes3]; exact inst_length _ _ _ _ _ _ _ h.narcs hokf
        have hit := t47 n.nonterms l.states r l.arcs l.final f t k hsm hr2 hokf h.arcs
        rw [hes3] at hit
        refine SatD.skip ?_
        simp
        refine SatD.seq ?_
        refine SatD.block ?_ -- 5
        refine SatD.regSeq hΓ follows [2, 3, 4, 5, 6, 7, 8, 9, 10, 22, 23, 35, 36] ?_
        simp [d11r11]
        refine SatD.regSeq hΓ follows [2, 3, 4, 5, 6, 7, 8, 9, 22, 23, 35, 36, 44] ?_
        simp only [d11r12, ← htn, ← htl]
        have hr' : n.rules[k]?.getD default = r := by rw [← hr]; simp
        simp [Γ11, specP, fn34, hr']
        rw [htn, htl]
        refine ⟨⟨n, l, k, f, t, rfl, he⟩, ?_⟩
        refine SatD.block ?_ -- 6
        refine SatD.rangeF hit (by simp) (by simp) ?_ (fun pre => obs [(4099, .box [.aref 4178 pre.length]), (4178, .arr pre.length 47 5 (edgesT es2 ++ pre.map rowOf)), (1185, .box [.v (ti (gl + 1)), .aref 2000 0]), (2000, .arr 0 47 5 (edgesT es1)), (1005, .box [.v (ti 0), .nil0])]) ?_ ?_ (fun pre x rest hx => ?_) ?_
        · intro x hx
          simp only [yieldsOf, List.mem_map] at hx
          obtain ⟨e, _, rfl⟩ := hx
          rfl
        · simp
        · intro pre r hr
          simp only at hr
          simp only [obs_cons, obs_nil]
          repeat rw [if_neg (by omega)]
        · have hxm : x ∈ yieldsOf es3 := by rw [hx]; simp
          simp only [yieldsOf, List.mem_map] at hxm
          obtain ⟨e, hem, rfl⟩ := hxm
          have lpre : pre.length ≤ 10000 := by
            have : (yieldsOf es3).length = es3.length := by simp [yieldsOf]
            rw [hx] at this
            simp at this
            omega
          obtain ⟨L, hL⟩ : ∃ L, pre.map rowOf = L := ⟨_, rfl⟩
          have lL : L.length = pre.length := by rw [← hL]; simp
          simp only [setPs, hL]
          refine SatD.reg hΓ follows [2, 3, 4, 5, 6, 7, 8, 9, 11, 22, 23, 35, 36] ?_
          simp [d11r13, Edge.enc]
          refine SatD.block ?_ -- 7
          refine SatD.reg hΓ follows [] ?_
          simp [d11r14, roomOk]
          refine ⟨by omega, ?_⟩
          simp only [← look_nil_fun]
          refine Le.keepLow ?_ ?_ ?_ ?_
          · simp [hL, lL, rowOf]
          · simp
          · simp [hL, rowOf]
          · simp
        · have lt3 : (yieldsOf es3).length = es3.length := by simp [yieldsOf]
          simp only [rowOf_yields]
          simp
          refine SatD.reg hΓ follows [2, 3, 4, 5, 6, 7, 8, 9, 22, 23, 35, 36] ?_
          simp [d11r15]
          refine ⟨k + 1, Le.keep ?_ ?_ ?_ ?_, ?_, ?_⟩ -- next round
          · simp
          · simp
          · have hsp : spanL n.nonterms l.states n.rules l.arcs f t (k + 1) = es2 ++ es3 := by rw [spanL_succ, hes2, hr, hes3]
            simp [hsp, edgesT]
          · simp
            exact (wrap_id (by omega)).symm
          · omega
          · omega
      · simp at he
        have hkR : k = n.rules.length := by omega
        subst hkR
        have hgood : ∀ x ∈ edgesT (spanL n.nonterms l.states n.rules l.arcs f t n.rules.length), goodE x := spanL_good h (by omega) (by omega) hd _ (Nat.le_refl _)
        have llen : (spanL n.nonterms l.states n.rules l.arcs f t n.rules.length).length ≤ 10000000 := spanL_len h hokf _ (Nat.le_refl _)
        have hsort := isort_edges (spanL n.nonterms l.states n.rules l.arcs f t n.rules.length)
        have hspan : spanE n.nonterms l.states n.rules l.arcs f t = isort ltH (spanL n.nonterms l.states n.rules l.arcs f t n.rules.length) := rfl
        obtain ⟨es4, hes4⟩ : ∃ es4, spanL n.nonterms l.states n.rules l.arcs f t n.rules.length = es4 := ⟨_, rfl⟩
        rw [hes4] at hgood llen hsort hspan ⊢
        obtain ⟨es5, hes5⟩ : ∃ es5, isort ltH es4 = es5 := ⟨_, rfl⟩
        have l5 : es5.length = es4.length := by rw [← hes5, isort_length]
        rw [hes5] at hsort hspan
        refine SatD.exit ?_
        simp
        refine SatD.regASeq hΓ follows (rs := d11r16S) (.inr ⟨_, rfl⟩) (by kernel_rfl) [2, 3, 4, 5, 6, 7, 8, 9, 22, 23] ?_
        simp [d11r16S, Γ11, k35, setO_obs, hsort]
        refine ⟨⟨hgood, by omega⟩, ?_⟩
        refine SatD.reg hΓ follows [2, 3, 4, 5, 6, 7, 8, 22, 23] ?_
        simp [d11r17, roomOk]
        refine ⟨⟨?_, by omega, by omega⟩, ?_⟩
        · intro x hx
          simp only [edgesT, List.mem_map] at hx
          obtain ⟨e, _, rfl⟩ := hx
          rfl
        refine SatD.reg hΓ follows [2, 3, 4, 5, 6, 7, 8, 22, 23] ?_
        simp [d11r18]
        refine ⟨t + 1, Le.keep ?_ ?_ ?_ ?_, ⟨?_, ?_⟩, ?_⟩ -- next round
        · simp
        · simp
        · rw [rowL_succ _ _ _ _ _ _ ht1, ← List.append_assoc, hes1, hspan]
          simp [edgesT]
        · simp
          exact (wrap_id (by omega)).symm
        · omega
        · omega
        · omega
    · simp at hd
      refine SatD.exit ?_
      simp
      refine SatD.reg hΓ follows [2, 3, 4, 5, 6, 22, 23] ?_
      simp [d11r19]
      have htS : t = l.states.toNat := by omega
      refine ⟨f + 1, Le.keep ?_ ?_ ?_ ?_, ?_, ?_⟩ -- next round
      · simp
      · simp
      · rw [allL_succ, hes0, htS]
        simp
      · simp
        exact (wrap_id (by omega)).symm
      · omega
      · omega
  · simp at hc
    have hfS : f = l.states.toNat := by omega
    refine SatD.exit ?_
    simp
    obtain ⟨es6, hes6⟩ : ∃ es6, allL n.nonterms l.states n.rules l.arcs l.states.toNat = es6 := ⟨_, rfl⟩
    have les6 : es6.length ≤ 100000000000 := by rw [← hes6]; exact allL_len h _ (by omega)
    rw [hfS, hes6]
    refine SatD.seq ?_
    refine SatD.regSeq hΓ follows [2, 4, 5, 6, 60, 61, 62] ?_
    simp only [d11r20, ← htl]
    simp
    refine SatD.block ?_ -- 8
    refine SatD.loop (fun k : Nat => ⟨DM.look [(2, .v tn), (4, .ptr 1005 0), (5, .v (.box [ti n.nonterms, ti l.states])), (6, .ptr 1185 0), (60, .v (.sl (intsT l.final))), (61, .v (ti l.final.length)), (62, .v (ti k))],
        obs [(1185, .box [.v (ti (gl + 1)), .aref 2000 0]), (2000, .arr 0 47 5 (edgesT (es6 ++ finL n.nonterms l.states n.start l.final k))), (1005, .box [.v (ti 0), .nil0])], 4000, 1000, []⟩)
      (fun k => k ≤ l.final.length) (fun k => l.final.length - k) 0 (Le.keep ?_ ?_ ?_ ?_) (by simp) (fun k hk => ?_)
    · simp
    · simp
    · simp [finL]
    · simp
    have hnf := h.nfin
    refine SatD.regSeq hΓ follows [2, 4, 5, 6, 60, 61, 62, 63] ?_
    simp [d11r21]
    refine SatD.seq ?_
    refine SatD.cond rfl (fun he => ?_) (fun he => ?_)
    · simp at he
      obtain ⟨c, hcf⟩ : ∃ c, l.final.getD k default = c := ⟨_, rfl⟩
      have hrow := rowAt_ints he
      rw [hcf] at hrow
      obtain ⟨es7, hes7⟩ : ∃ es7, es6 ++ finL n.nonterms l.states n.start l.final k = es7 := ⟨_, rfl⟩
      have les7 : es7.length ≤ 101000000000 := by
        rw [← hes7, List.length_append]
        have := finL_len h k hk
        omega
      rw [hes7]
      refine SatD.skip ?_
      simp
      refine SatD.seq ?_
      refine SatD.block ?_ -- 9
      refine SatD.regSeq hΓ follows [2, 4, 5, 6, 12, 13, 60, 61, 62] ?_
      simp [d11r22, hrow, he]
      refine SatD.regSeq hΓ follows [2, 4, 5, 6, 12, 13, 60, 61, 62, 68] ?_
      simp [d11r23]
      refine SatD.to ⟨DM.look [(2, .v tn), (4, .ptr 1005 0), (5, .v (.box [ti n.nonterms, ti l.states])), (6, .ptr 1185 0), (60, .v (.sl (intsT l.final))), (61, .v (ti l.final.length)), (62, .v (ti k))],
        obs [(1185, .box [.v (ti (gl + 1)), .aref 2000 0]), (2000, .arr 0 47 5 (edgesT (es6 ++ finL n.nonterms l.states n.start l.final (k + 1)))), (1005, .box [.v (ti 0), .nil0])], 6000, 1000, []⟩ ?_ ?_
      · refine SatD.cond rfl (fun h5 => ?_) (fun h5 => ?_)
        · simp at h5
          have hfe : finE n.nonterms l.states n.start l.final k = [⟨gl, [idxI n.nonterms l.states n.start 0 k], c, -1, k⟩] := by unfold finE; rw [hcf, if_pos (by simpa [Inf] using h5), hgl]
          refine SatD.reg hΓ follows [2, 4, 5, 6, 60, 61, 62] ?_
          simp only [d11r24, ← htn]
          simp [Γ11, spec33, fn33, pre33, spec37, fn37, pre37, roomOk, hgl]
          refine ⟨hsm, ⟨hsm, h.start.1, h.start.2, by omega⟩, ⟨by omega, by omega⟩, ?_⟩
          refine Le.keep ?_ ?_ ?_ ?_
          · simp
          · simp
          · rw [finL_succ, ← List.append_assoc, hes7, hfe]
            simp [edgesT, Edge.enc, intsT]
          · simp [← htn]
        · simp at h5
          have hfe : finE n.nonterms l.states n.start l.final k = [] := by unfold finE; rw [hcf, if_neg (by simp [Inf]; omega)]
          refine SatD.skip ⟨rfl, Le.keep ?_ ?_ ?_ ?_⟩
          · simp
          · simp
          · rw [finL_succ, ← List.append_assoc, hes7, hfe]
            simp
          · simp
      · simp
        refine SatD.reg hΓ follows [2, 4, 5, 6, 60, 61, 62] ?_
        simp [d11r25]
        refine ⟨k + 1, Le.keep ?_ ?_ ?_ ?_, ?_, ?_⟩ -- next round
        · simp
        · simp
        · simp
        · simp
          exact (wrap_id (by omega)).symm
        · omega
        · omega
    · simp at he
      have hkF : k = l.final.length := by omega
      refine SatD.exit ?_
      simp
      refine SatD.regSeq hΓ follows [4] ?_
      simp [d11r26]
      refine SatD.ret ?_
      simp [d11res, hyper, hes6, hkF]
end Go.Proofs
/- Plain laws of the list of hyperedges: heads in order. Conditions: none. -/
namespace Go.Proofs
open Go.DM Go.DM.Srt
set_option linter.unusedSimpArgs false
set_option linter.unusedVariables false

theorem range_lt (n : Nat) : (List.range n).Pairwise (· < ·) := List.pairwise_lt_range
theorem swoH : SWO ltH := by
  refine ⟨fun x => ?_, fun x y z h1 h2 => ?_, fun x y z h1 h2 => ?_⟩ <;> simp only [ltH, decide_eq_true_eq, decide_eq_false_iff_not] at * <;> omega
theorem eqvH (a b : Edge) : eqv ltH a b = true ↔ a.head = b.head := by
  simp only [eqv, ltH, Bool.and_eq_true, Bool.not_eq_true', decide_eq_false_iff_not]
  omega
theorem finL_head {nt st start : Int} {fin : List Int} {k : Nat} {e : Edge} (he : e ∈ finL nt st start fin k) : ∃ t : Nat, t < k ∧ e = ⟨goalI nt st, [idxI nt st start 0 t], fin.getD t default, -1, t⟩ ∧ fin.getD t default < Inf := by
  unfold finL at he
  simp only [List.mem_flatMap, List.mem_range] at he
  obtain ⟨i, hi, he⟩ := he
  unfold finE at he
  split at he
  · simp only [List.mem_singleton] at he
    exact ⟨i, hi, he, by assumption⟩
  · cases he
end Go.Proofs
namespace Go.Proofs
open Go.DM Go.DM.Srt
set_option linter.unusedSimpArgs false
set_option linter.unusedVariables false

def exN : Normal := ⟨1, 1, 0, [⟨2, 0, 0, 0, 1, -1⟩, ⟨4, 0, 0, 0, 0, -1⟩]⟩
def exL : Lattice := ⟨2, [⟨0, 1, 0, 2, []⟩], [1099511627776, 0]⟩
@[simp] theorem chunk_2 (sz : Nat) (cs : List T) : chunk sz 2 cs = [cs.take sz, (cs.drop sz).take sz] := rfl

theorem t29 : CallsOk Try.prog 29 [] (.tup [exN.enc, exL.enc]) := by
  have hΓ : EnvOk Try.prog (envOf []) := EnvOk.nil
  refine c29.ok (by simp) (initSt_sat ?_)
  simp
  refine SatD.regSeq hΓ follows [0, 1] ?_
  simp [d29r0]
  refine SatD.regSeq hΓ follows [0, 1, 2] ?_
  simp [d29r1]
  refine SatD.regSeq hΓ follows [0, 1, 2, 3] ?_
  simp [d29r2]
  refine SatD.regASeq hΓ follows (rs := annot d29r3 [some [1018], some [1034], some [1001], some [1002]]) (.inl rfl) (by kernel_rfl) [0, 1] ?_
  simp [d29r3, annot, touchOk, opdsOf, names, namesL]
  refine SatD.ret ?_
  simp [d29res, exN, exL, Normal.enc, Lattice.enc, rulesT, Rule.enc, arcsT, Arc.enc, intsT, opsT]

def wantE : List Edge := [⟨0, [0, 0], 0, 1, 0⟩, ⟨1, [], 3, 0, 0⟩, ⟨1, [0, 1], 0, 1, 0⟩, ⟨1, [1, 2], 0, 1, 1⟩, ⟨2, [2, 2], 0, 1, 1⟩, ⟨3, [1], 0, -1, 1⟩]
theorem hyper_ex : hyper exN exL = wantE := by decide +kernel
theorem fit_ex : Fit exN exL := by
  refine ⟨⟨by decide, by decide, by decide, by decide⟩, ⟨by decide, by decide⟩, fun r hr => ?_, by decide, ⟨by decide, fun a ha => ?_⟩, by decide, by decide, by decide⟩
  · simp only [exN, List.mem_cons, List.not_mem_nil, or_false] at hr
    rcases hr with rfl | rfl
    · refine ⟨⟨by decide, by decide, by decide, by decide⟩, fun h => ?_, fun h => ?_⟩ <;> exact absurd h (by decide)
    · refine ⟨⟨by decide, by decide, by decide, by decide⟩, fun h => absurd h (by decide), fun h => ⟨by decide, by decide, by decide, by decide⟩⟩
  · simp only [exL, List.mem_cons, List.not_mem_nil, or_false] at ha
    subst ha
    exact ⟨by decide, by decide⟩
end Go.Proofs
namespace Go.Proofs
open Go.DM Go.DM.Srt
set_option linter.unusedSimpArgs false
set_option linter.unusedVariables false

/-- The spans have different numbers. -/
theorem item_inj {nt st h f t h' f' t' : Int} (hi : isItem nt st h f t) (hi' : isItem nt st h' f' t') (e : spanI st f t * nt + h = spanI st f' t' * nt + h') : h = h' ∧ f = f' ∧ t = t' := by
  unfold isItem at hi hi'
  have d1 := divmod (x := spanI st f t) (nt := nt) (h := h) (by omega) (by omega)
  have d2 := divmod (x := spanI st f' t') (nt := nt) (h := h') (by omega) (by omega)
  rw [e] at d1
  have es : spanI st f t = spanI st f' t' := by rw [← d1.1, d2.1]
  have eh : h = h' := by rw [← d1.2, d2.2]
  refine ⟨eh, ?_⟩
  rcases Int.lt_trichotomy f f' with h1 | h1 | h1
  · have := span_lt (st := st) (f := f') (t := t') (s := f) (u := t) (by omega) h1 (by omega) (by omega) (by omega); omega
  · subst h1; unfold spanI at es; omega
  · have := span_lt (st := st) (f := f) (t := t) (s := f') (u := t') (by omega) h1 (by omega) (by omega) (by omega); omega

open Classical in
noncomputable def atT (nt st i : Int) : T :=
  if h : ∃ p : Int × Int × Int, isItem nt st p.1 p.2.1 p.2.2 ∧ i = spanI st p.2.1 p.2.2 * nt + p.1 then .tup [.agg [ti h.choose.1, ti h.choose.2.1, ti h.choose.2.2], .bool true]
  else .tup [.agg [ti 0, ti 0, ti 0], .bool false]
theorem atT_item {nt st h f t i : Int} (hi : isItem nt st h f t) (e : i = spanI st f t * nt + h) : atT nt st i = .tup [.agg [ti h, ti f, ti t], .bool true] := by
  have hx : ∃ p : Int × Int × Int, isItem nt st p.1 p.2.1 p.2.2 ∧ i = spanI st p.2.1 p.2.2 * nt + p.1 := ⟨(h, f, t), hi, e⟩
  unfold atT
  rw [dif_pos hx]
  obtain ⟨k1, k2⟩ := hx.choose_spec
  obtain ⟨e1, e2, e3⟩ := item_inj hi k1 (e.symm.trans k2)
  rw [← e1, ← e2, ← e3]
theorem atT_none {nt st i : Int} (hs : sm nt st) (hi : i < 0 ∨ goalI nt st ≤ i) : atT nt st i = .tup [.agg [ti 0, ti 0, ti 0], .bool false] := by
  unfold atT
  rw [dif_neg]
  rintro ⟨⟨h, f, t⟩, k1, k2⟩
  have := idx_lt hs k1
  simp only at k2 this
  omega
theorem t16 (n : Normal) (l : Lattice) (i : Int) (hs : sm n.nonterms l.states) : CallsOk Try.prog 16 [n.enc, l.enc, ti i] (atT n.nonterms l.states i) := by
  by_cases hi : i < 0 ∨ goalI n.nonterms l.states ≤ i
  · rw [atT_none hs hi]; exact t16b n l i hs hi
  · obtain ⟨h, f, t, k1, k2⟩ := item_of hs (by omega) (show i < goalI n.nonterms l.states by omega)
    rw [atT_item k1 k2, k2]; exact t16a n l h f t hs k1
def idxT (nt st h f t : Int) : T := if isItem nt st h f t then .tup [ti (idxI nt st h f t), .bool true] else .tup [ti 0, .bool false]
def preNL (ts : List T) : Prop := ∃ (n : Normal) (l : Lattice), ts = [n.enc, l.enc] ∧ sm n.nonterms l.states
def preNLI (ts : List T) : Prop := ∃ (n : Normal) (l : Lattice) (i : Int), ts = [n.enc, l.enc, ti i] ∧ sm n.nonterms l.states
def preNLX (ts : List T) : Prop := ∃ (n : Normal) (l : Lattice) (h f t : Int), ts = [n.enc, l.enc, .agg [ti h, ti f, ti t]] ∧ sm n.nonterms l.states
def fnIdx : List T → T
  | [n, l, .agg [.int _ h, .int _ f, .int _ t]] => idxT (decN n).nonterms (decL l).states h f t
  | _ => .bool false
noncomputable def fnAt : List T → T
  | [n, l, .int _ i] => atT (decN n).nonterms (decL l).states i
  | _ => .bool false
def fnCount : List T → T
  | [n, l] => ti (goalI (decN n).nonterms (decL l).states + 1)
  | _ => .bool false
def pre11 (ts : List T) : Prop := ∃ (n : Normal) (l : Lattice), ts = [n.enc, l.enc] ∧ Fit n l
def fn11 : List T → T
  | [n, l] => .agg [ti (goalI (decN n).nonterms (decL l).states + 1), .sl (edgesT (hyper (decN n) (decL l)))]
  | _ => .bool false
def pre13 (ts : List T) : Prop := ∃ a b : List Edge, ts = [.sl (edgesT a), .sl (edgesT b)] ∧ okEdges a
def fn13 : List T → T
  | [.sl a, .sl b] => .bool (decide (decEdges a = decEdges b))
  | _ => .bool false
noncomputable def Γ9 : Env := envOf [(29, specP (fun ts => ts = []) (fun _ => .tup [exN.enc, exL.enc]) false), (11, specP pre11 fn11 false), (15, specP preNLX fnIdx false), (16, specP preNLI fnAt false), (17, specP preNL fnCount true), (13, specP pre13 fn13 true)]
theorem ok9 : EnvOk Try.prog Γ9 := by
  refine EnvOk.cons (EnvOk.cons (EnvOk.cons (EnvOk.cons (EnvOk.cons (EnvOk.cons EnvOk.nil ?_) ?_) ?_) ?_) ?_) ?_
  · rintro ts ⟨a, b, rfl, h⟩
    exact ⟨by simpa [fn13] using t13 a b h, fun _ => rfl⟩
  · rintro ts ⟨n, l, rfl, h⟩
    exact ⟨by simpa [fnCount] using t17 n l h, fun _ => rfl⟩
  · rintro ts ⟨n, l, i, rfl, h⟩
    exact ⟨by simpa [fnAt] using t16 n l i h, fun h => by cases h⟩
  · rintro ts ⟨n, l, h, f, t, rfl, hs⟩
    exact ⟨by simpa [fnIdx, idxT] using t15 n l h f t hs, fun h => by cases h⟩
  · rintro ts ⟨n, l, rfl, h⟩
    exact ⟨by simpa [fn11] using t11 n l h, fun h => by cases h⟩
  · rintro ts rfl
    exact ⟨t29, fun h => by cases h⟩

theorem atT_ex1 : atT 1 2 1 = .tup [.agg [ti 0, ti 0, ti 1], .bool true] := atT_item (h := 0) (f := 0) (t := 1) (by decide) (by decide)
theorem atT_ex3 : atT 1 2 3 = .tup [.agg [ti 0, ti 0, ti 0], .bool false] := atT_none ⟨by decide, by decide, by decide, by decide⟩ (by decide)
theorem ex_N : T.agg [ti 1, ti 1, ti 0, .sl [[ti 2, ti 0, ti 0, ti 0, ti 1, ti (-1)], [ti 4, ti 0, ti 0, ti 0, ti 0, ti (-1)]]] = exN.enc := rfl
theorem ex_L : T.agg [ti 2, .sl [[ti 0, ti 1, ti 0, ti 2, .sl []]], .sl [[ti 1099511627776], [ti 0]]] = exL.enc := rfl

set_option maxRecDepth 20000 in
set_option maxHeartbeats 4000000 in
theorem t9 : CallsOk Try.prog 9 [] (.bool true) := by
  have hΓ := ok9
  refine c9.ok (by simp) (initSt_sat ?_)
  simp
  refine SatD.regSeq hΓ follows [] ?_
  simp [d9r0]
  refine SatD.regSeq hΓ follows [1, 2] ?_
  simp [d9r1, Γ9, exN, exL, Normal.enc, Lattice.enc, rulesT, Rule.enc, arcsT, Arc.enc, intsT, opsT]
  refine SatD.regSeq hΓ follows [1, 2, 3] ?_
  simp [d9r2]
  refine SatD.le (Le.keep (o := []) (l := [(1, .v (.box [ti 1, ti 1, ti 0, .sl [[ti 2, ti 0, ti 0, ti 0, ti 1, ti (-1)], [ti 4, ti 0, ti 0, ti 0, ti 0, ti (-1)]]])), (2, .v (.box [ti 2, .sl [[ti 0, ti 1, ti 0, ti 2, .sl []]], .sl [[ti 1099511627776], [ti 0]]])), (3, .v (.sl (edgesT wantE)))]) (nxt' := 2000) ?_ ?_ ?_ ?_) ?_
  · simp
  · simp
  · simp
  · simp; rfl
  have h11 : fn11 [exN.enc, exL.enc] = .agg [ti 4, .sl (edgesT wantE)] := by
    simp only [fn11, decN_enc, decL_enc, hyper_ex]; rfl
  have hsm : sm exN.nonterms exL.states := ⟨by decide, by decide, by decide, by decide⟩
  refine SatD.regSeq hΓ follows [1, 2, 3, 4] ?_
  simp [d9r3, Γ9, ex_N, ex_L, h11]
  refine ⟨⟨exN, exL, rfl, fit_ex⟩, ?_⟩
  refine SatD.le (Le.keep (o := []) (l := [(1, .v (.box [ti 1, ti 1, ti 0, .sl [[ti 2, ti 0, ti 0, ti 0, ti 1, ti (-1)], [ti 4, ti 0, ti 0, ti 0, ti 0, ti (-1)]]])), (2, .v (.box [ti 2, .sl [[ti 0, ti 1, ti 0, ti 2, .sl []]], .sl [[ti 1099511627776], [ti 0]]])), (3, .v (.sl (edgesT wantE))), (4, .v (.box [ti 4, .sl (edgesT wantE)]))]) (nxt' := 3000) ?_ ?_ ?_ ?_) ?_
  · simp
  · simp
  · simp
  · simp
  have h15 : fnIdx [exN.enc, exL.enc, .agg [ti 0, ti 1, ti 1]] = .tup [ti 2, .bool true] := by
    simp only [fnIdx, decN_enc, decL_enc]; rfl
  refine SatD.regSeq hΓ follows [1, 2, 3, 4, 5, 6] ?_
  simp [d9r4, Γ9, ex_N, ex_L, h15]
  refine ⟨⟨exN, exL, 0, 1, 1, rfl, hsm⟩, ?_⟩
  have h16 : fnAt [exN.enc, exL.enc, ti 1] = .tup [.agg [ti 0, ti 0, ti 1], .bool true] := by
    simp only [fnAt, decN_enc, decL_enc]; exact atT_ex1
  refine SatD.regSeq hΓ follows [1, 2, 3, 4, 5, 6, 7, 8] ?_
  simp [d9r5, Γ9, ex_N, ex_L, h16]
  refine ⟨⟨exN, exL, 1, rfl, hsm⟩, ?_⟩
  have h16' : fnAt [exN.enc, exL.enc, ti 3] = .tup [.agg [ti 0, ti 0, ti 0], .bool false] := by
    simp only [fnAt, decN_enc, decL_enc]; exact atT_ex3
  refine SatD.regSeq hΓ follows [1, 2, 3, 4, 5, 6, 7, 8, 10] ?_
  simp [d9r6, Γ9, ex_N, ex_L, h16']
  refine ⟨⟨exN, exL, 3, rfl, hsm⟩, ?_⟩
  have h17 : fnCount [exN.enc, exL.enc] = ti 4 := by
    simp only [fnCount, decN_enc, decL_enc]; rfl
  refine SatD.regSeq hΓ follows [0] ?_
  simp [d9r7, Γ9, ex_N, ex_L, h17, fn13]
  refine ⟨⟨exN, exL, rfl, hsm⟩, ⟨wantE, wantE, rfl, by decide, by decide⟩, ?_⟩
  refine SatD.ret ?_
  simp [d9res]
end Go.Proofs
namespace Go.Proofs
open Go.DM Go.DM.Srt
set_option linter.unusedSimpArgs false
set_option linter.unusedVariables false

def preFair (ts : List T) : Prop := ∃ (n : Normal) (l : Lattice), ts = [n.enc, l.enc] ∧ n.rules.length ≤ 9223372036854775807 ∧ l.final.length ≤ 9223372036854775807 ∧ l.arcs.length ≤ 9223372036854775807
def fnFair : List T → T
  | [n, l] => .bool (fair (decN n) (decL l))
  | _ => .bool false
end Go.Proofs
/- What a fair grammar and lattice are. Conditions: none. -/
namespace Go.Proofs
open Go.DM Go.DM.Srt
set_option linter.unusedSimpArgs false
set_option linter.unusedVariables false

structure FairP (n : Normal) (l : Lattice) : Prop where
  nt : 1 ≤ n.nonterms ∧ n.nonterms ≤ 14
  terms : 0 ≤ n.terms ∧ n.terms ≤ 6
  nr : n.rules.length ≤ 24
  start : 0 ≤ n.start ∧ n.start < n.nonterms
  rules : ∀ r ∈ n.rules, ¬ ruleBad n r ∧ bodyOk n r
  st : 1 ≤ l.states ∧ l.states ≤ 11
  nfin : (l.final.length : Int) = l.states
  na : l.arcs.length ≤ 120
  fin : ∀ c ∈ l.final, 0 ≤ c ∧ c ≤ Inf
  arcs : ∀ i, i < l.arcs.length → ¬ badArc l n.terms i

theorem fairP {n : Normal} {l : Lattice} (h : fair n l = true) : FairP n l := by
  simp only [fair, smallN, Bool.and_eq_true, decide_eq_true_eq, validN, validL, Bool.not_eq_true', decide_eq_false_iff_not, List.all_eq_true, List.mem_range, okRule, okArc, okFin] at h
  obtain ⟨⟨⟨⟨h1, h2, h3⟩, h4, h5⟩, h6, h7⟩, ⟨h8, h9⟩, h10, h11⟩ := h
  unfold headBad at h4
  refine ⟨by omega, by omega, by omega, by omega, fun r hr => ?_, by omega, h9, by omega, fun c hc => ?_, h11⟩
  · obtain ⟨i, hi, rfl⟩ := List.mem_iff_getElem.1 hr
    have := h5 i hi
    simpa [hi] using this
  · obtain ⟨i, hi, rfl⟩ := List.mem_iff_getElem.1 hc
    have := h10 i hi
    simpa [hi] using this
theorem FairP.head {n : Normal} {l : Lattice} (h : FairP n l) : ∀ r ∈ n.rules, 0 ≤ r.head ∧ r.head < n.nonterms := by
  intro r hr
  have := (h.rules r hr).1
  unfold ruleBad at this
  omega
theorem FairP.arc {n : Normal} {l : Lattice} (h : FairP n l) : ∀ a ∈ l.arcs, 0 ≤ a.f ∧ a.f ≤ a.t ∧ a.t < l.states ∧ 0 ≤ a.term ∧ a.term < n.terms ∧ 0 ≤ a.cost ∧ a.cost < Inf := by
  intro a ha
  obtain ⟨i, hi, rfl⟩ := List.mem_iff_getElem.1 ha
  have := h.arcs i hi
  unfold badArc at this
  rw [List.getD_eq_getElem?_getD, List.getElem?_eq_getElem hi, Option.getD_some] at this
  simp only [Inf] at *
  omega
theorem FairP.fit {n : Normal} {l : Lattice} (h : FairP n l) : Fit n l := by
  have h1 := h.nt
  have h2 := h.st
  have h3 := h.start
  have h4 := h.nr
  have h5 := h.na
  have h6 := h.nfin
  refine ⟨⟨by omega, by omega, by omega, by omega⟩, by omega, fun r hr => ?_, by omega, ⟨by omega, fun a ha => ?_⟩, by omega, by omega, by omega⟩
  · obtain ⟨k1, k2⟩ := h.rules r hr
    unfold ruleBad at k1
    unfold bodyOk at k2
    refine ⟨⟨by omega, by omega, by omega, by omega⟩, fun e => by omega, fun e => by omega⟩
  · have := h.arc a ha
    simp only [Inf] at *
    omega
end Go.Proofs
set_option maxRecDepth 100000
set_option linter.unusedVariables false

namespace Go.Proofs
open Go.DM

-- emendate/emendatelaw39.ItemsHypergraphMatchesReference
def d3r0 : List RO := [
  ⟨.box (.tmp 0), (some 2), none, [], none⟩,
  ⟨.box (.tmp 1), (some 3), none, [], none⟩,
  ⟨.mov (.con (.v (.bool false))), (some 4), none, [], none⟩]
def d3r1 : List RO := [
  ⟨.call 9 [], (some 7), none, [], none⟩,
  ⟨.un .not (.tmp 7), (some 8), none, [0], none⟩]
def d3r2 : List RO := [
  ⟨.mov (.con (.v (.bool false))), (some 4), none, [], none⟩]
def d3r3 : List RO := [
  ⟨.load 4 true (.tmp 2), (some 9), none, [], none⟩,
  ⟨.load 3 true (.tmp 3), (some 10), none, [], none⟩,
  ⟨.call 10 [(.tmp 9), (.tmp 10)], (some 11), none, [0, 1], none⟩,
  ⟨.un .not (.tmp 11), (some 12), none, [2], none⟩]
def d3r4 : List RO := [
  ⟨.mov (.con (.v (.bool true))), (some 4), none, [], none⟩]
def d3r5 : List RO := [
  ⟨.load 4 true (.tmp 2), (some 13), none, [], none⟩,
  ⟨.load 3 true (.tmp 3), (some 14), none, [], none⟩,
  ⟨.call 11 [(.tmp 13), (.tmp 14)], (some 15), none, [0, 1], none⟩,
  ⟨.load 4 true (.tmp 2), (some 16), none, [], none⟩,
  ⟨.load 3 true (.tmp 3), (some 17), none, [], none⟩,
  ⟨.call 12 [(.tmp 16), (.tmp 17)], (some 18), none, [3, 4, 2], none⟩,
  ⟨.alloc [(.v (.int .i64 0)), .nil0], (some 5), none, [], none⟩,
  ⟨.alloc [(.v (.int .i64 0)), .nil0], (some 6), none, [], none⟩,
  ⟨.store 2 (.tmp 5) (.tmp 15), none, none, [6, 2, 5, 0, 1, 2, 6, 7], none⟩,
  ⟨.store 2 (.tmp 6) (.tmp 18), none, none, [7, 5, 8, 0, 1, 2, 3, 4, 5, 6, 7, 8], none⟩]
def d3r6 : List RO := [
  ⟨.addOff 0 (.tmp 5), (some 19), none, [], none⟩,
  ⟨.load 1 false (.tmp 19), (some 20), none, [0], none⟩,
  ⟨.addOff 0 (.tmp 6), (some 21), none, [], none⟩,
  ⟨.load 1 false (.tmp 21), (some 22), none, [2], none⟩,
  ⟨.bin .eql (.tmp 20) (.tmp 22), (some 23), none, [1, 3], none⟩,
  ⟨.mov (.tmp 23), (some 24), none, [4], none⟩,
  ⟨.addOff 1 (.tmp 5), (some 25), (some (24, true)), [5], none⟩,
  ⟨.load 1 false (.tmp 25), (some 26), (some (24, true)), [6, 5], none⟩,
  ⟨.addOff 1 (.tmp 6), (some 27), (some (24, true)), [5], none⟩,
  ⟨.load 1 false (.tmp 27), (some 28), (some (24, true)), [8, 5], none⟩,
  ⟨.call 13 [(.tmp 26), (.tmp 28)], (some 29), (some (24, true)), [7, 9, 5, 5], none⟩,
  ⟨.pick (.tmp 24) (.tmp 29) (.con (.v (.bool false))), (some 30), none, [5, 10], none⟩,
  ⟨.mov (.tmp 30), (some 31), none, [11, 10], none⟩,
  ⟨.load 2 true (.tmp 5), (some 32), (some (31, true)), [12], none⟩,
  ⟨.call 14 [(.tmp 32)], (some 33), (some (31, true)), [13, 12, 12], none⟩,
  ⟨.pick (.tmp 31) (.tmp 33) (.con (.v (.bool false))), (some 34), none, [12, 14], none⟩,
  ⟨.mov (.tmp 34), (some 4), none, [15, 14, 0, 1, 2, 3, 4, 5, 6, 7, 8, 9, 10, 11, 12, 13, 14, 15], none⟩]
def d3 : DC := (.seq (.region false d3r0)
  (.seq (.seq (.region false d3r1)
  (.cond (.tmp 8) (.seq (.region false d3r2)
  .ret)
  .skip))
  (.seq (.seq (.region false d3r3)
  (.cond (.tmp 12) (.seq (.region false d3r4)
  .ret)
  .skip))
  (.seq (.region true d3r5)
  (.seq (.region false d3r6)
  .ret)))))
def d3res : List DRes := [.slot 4]
theorem c3 [Laid] : CodeOf Try.prog 3 35 d3 d3res := ⟨Try.f3, by kernel_rfl, by kernel_rfl, by kernel_rfl, by kernel_rfl, by kernel_rfl⟩
-- emendate/emendatelaw39.ItemsEdgesAreDistinct
def d6r0 : List RO := [
  ⟨.box (.tmp 0), (some 2), none, [], none⟩,
  ⟨.box (.tmp 1), (some 3), none, [], none⟩,
  ⟨.mov (.con (.v (.bool false))), (some 4), none, [], none⟩]
def d6r1 : List RO := [
  ⟨.call 9 [], (some 9), none, [], none⟩,
  ⟨.un .not (.tmp 9), (some 10), none, [0], none⟩]
def d6r2 : List RO := [
  ⟨.mov (.con (.v (.bool false))), (some 4), none, [], none⟩]
def d6r3 : List RO := [
  ⟨.load 4 true (.tmp 2), (some 11), none, [], none⟩,
  ⟨.load 3 true (.tmp 3), (some 12), none, [], none⟩,
  ⟨.call 10 [(.tmp 11), (.tmp 12)], (some 13), none, [0, 1], none⟩,
  ⟨.un .not (.tmp 13), (some 14), none, [2], none⟩]
def d6r4 : List RO := [
  ⟨.mov (.con (.v (.bool true))), (some 4), none, [], none⟩]
def d6r5 : List RO := [
  ⟨.load 4 true (.tmp 2), (some 15), none, [], none⟩,
  ⟨.load 3 true (.tmp 3), (some 16), none, [], none⟩,
  ⟨.call 11 [(.tmp 15), (.tmp 16)], (some 17), none, [0, 1], none⟩,
  ⟨.alloc [(.v (.int .i64 0)), .nil0], (some 5), none, [], none⟩,
  ⟨.store 2 (.tmp 5) (.tmp 17), none, none, [3, 2, 2, 0, 1, 2, 3], none⟩]
def d6r6 : List RO := [
  ⟨.mov (.con (.v (.int .i64 1))), (some 6), none, [], none⟩]
def d6r7 : List RO := [
  ⟨.mov (.tmp 6), (some 18), none, [], none⟩,
  ⟨.addOff 1 (.tmp 5), (some 19), none, [], none⟩,
  ⟨.load 1 false (.tmp 19), (some 20), none, [1], none⟩,
  ⟨.len (.tmp 20), (some 21), none, [2], none⟩,
  ⟨.bin .lss (.tmp 18) (.tmp 21), (some 22), none, [0, 3], none⟩]
def d6r8 : List RO := [
  ⟨.addOff 1 (.tmp 5), (some 25), none, [], none⟩,
  ⟨.load 1 false (.tmp 25), (some 26), none, [0], none⟩,
  ⟨.mov (.tmp 6), (some 27), none, [], none⟩,
  ⟨.bin .sub (.tmp 27) (.con (.v (.int .i64 1))), (some 28), none, [2], none⟩,
  ⟨.idxAddr 5 (.tmp 26) (.tmp 28), (some 29), none, [1, 3], none⟩,
  ⟨.load 5 true (.tmp 29), (some 30), none, [4], none⟩,
  ⟨.addOff 1 (.tmp 5), (some 31), none, [], none⟩,
  ⟨.load 1 false (.tmp 31), (some 32), none, [6], none⟩,
  ⟨.mov (.tmp 6), (some 33), none, [], none⟩,
  ⟨.idxAddr 5 (.tmp 32) (.tmp 33), (some 34), none, [7, 8], none⟩,
  ⟨.load 5 true (.tmp 34), (some 35), none, [9], none⟩,
  ⟨.alloc [(.v (.int .i64 0)), .nil0, (.v (.int .i64 0)), (.v (.int .i64 0)), (.v (.int .i64 0))], (some 7), none, [], none⟩,
  ⟨.alloc [(.v (.int .i64 0)), .nil0, (.v (.int .i64 0)), (.v (.int .i64 0)), (.v (.int .i64 0))], (some 8), none, [], none⟩,
  ⟨.store 5 (.tmp 7) (.tmp 30), none, none, [11, 5, 0, 1, 2, 3, 4, 5, 11, 12], none⟩,
  ⟨.store 5 (.tmp 8) (.tmp 35), none, none, [12, 10, 13, 0, 1, 2, 3, 4, 5, 6, 7, 8, 9, 10, 11, 12, 13], none⟩]
def d6r9 : List RO := [
  ⟨.addOff 0 (.tmp 7), (some 36), none, [], none⟩,
  ⟨.load 1 false (.tmp 36), (some 37), none, [0], none⟩,
  ⟨.addOff 0 (.tmp 8), (some 38), none, [], none⟩,
  ⟨.load 1 false (.tmp 38), (some 39), none, [2], none⟩,
  ⟨.bin .gtr (.tmp 37) (.tmp 39), (some 40), none, [1, 3], none⟩,
  ⟨.mov (.tmp 40), (some 41), none, [4], none⟩,
  ⟨.addOff 0 (.tmp 7), (some 42), (some (41, false)), [5], none⟩,
  ⟨.load 1 false (.tmp 42), (some 43), (some (41, false)), [6, 5], none⟩,
  ⟨.addOff 0 (.tmp 8), (some 44), (some (41, false)), [5], none⟩,
  ⟨.load 1 false (.tmp 44), (some 45), (some (41, false)), [8, 5], none⟩,
  ⟨.bin .eql (.tmp 43) (.tmp 45), (some 46), (some (41, false)), [7, 9, 5], none⟩,
  ⟨.mov (.tmp 46), (some 47), (some (41, false)), [10, 5, 5], none⟩,
  ⟨.addOff 3 (.tmp 7), (some 48), (some (47, true)), [11], none⟩,
  ⟨.arrAddr 2 1 (.tmp 48) (.con (.v (.int .i64 0))), (some 49), (some (47, true)), [12, 11], none⟩,
  ⟨.load 1 false (.tmp 49), (some 50), (some (47, true)), [13, 11], none⟩,
  ⟨.addOff 3 (.tmp 8), (some 51), (some (47, true)), [11], none⟩,
  ⟨.arrAddr 2 1 (.tmp 51) (.con (.v (.int .i64 0))), (some 52), (some (47, true)), [15, 11], none⟩,
  ⟨.load 1 false (.tmp 52), (some 53), (some (47, true)), [16, 11], none⟩,
  ⟨.bin .gtr (.tmp 50) (.tmp 53), (some 54), (some (47, true)), [14, 17, 11], none⟩,
  ⟨.mov (.tmp 54), (some 55), (some (47, true)), [18, 11, 11], none⟩,
  ⟨.addOff 3 (.tmp 7), (some 56), (some (55, false)), [19], none⟩,
  ⟨.arrAddr 2 1 (.tmp 56) (.con (.v (.int .i64 0))), (some 57), (some (55, false)), [20, 19], none⟩,
  ⟨.load 1 false (.tmp 57), (some 58), (some (55, false)), [21, 19], none⟩,
  ⟨.addOff 3 (.tmp 8), (some 59), (some (55, false)), [19], none⟩,
  ⟨.arrAddr 2 1 (.tmp 59) (.con (.v (.int .i64 0))), (some 60), (some (55, false)), [23, 19], none⟩,
  ⟨.load 1 false (.tmp 60), (some 61), (some (55, false)), [24, 19], none⟩,
  ⟨.bin .eql (.tmp 58) (.tmp 61), (some 62), (some (55, false)), [22, 25, 19], none⟩,
  ⟨.mov (.tmp 62), (some 63), (some (55, false)), [26, 19, 19], none⟩,
  ⟨.addOff 3 (.tmp 7), (some 64), (some (63, true)), [27], none⟩,
  ⟨.arrAddr 2 1 (.tmp 64) (.con (.v (.int .i64 1))), (some 65), (some (63, true)), [28, 27], none⟩,
  ⟨.load 1 false (.tmp 65), (some 66), (some (63, true)), [29, 27], none⟩,
  ⟨.addOff 3 (.tmp 8), (some 67), (some (63, true)), [27], none⟩,
  ⟨.arrAddr 2 1 (.tmp 67) (.con (.v (.int .i64 1))), (some 68), (some (63, true)), [31, 27], none⟩,
  ⟨.load 1 false (.tmp 68), (some 69), (some (63, true)), [32, 27], none⟩,
  ⟨.bin .geq (.tmp 66) (.tmp 69), (some 70), (some (63, true)), [30, 33, 27], none⟩,
  ⟨.pick (.tmp 63) (.tmp 70) (.con (.v (.bool false))), (some 71), (some (55, false)), [27, 34, 19], none⟩,
  ⟨.pick (.tmp 55) (.con (.v (.bool true))) (.tmp 71), (some 72), (some (47, true)), [19, 35, 11], none⟩,
  ⟨.pick (.tmp 47) (.tmp 72) (.con (.v (.bool false))), (some 73), (some (41, false)), [11, 36, 5], none⟩,
  ⟨.pick (.tmp 41) (.con (.v (.bool true))) (.tmp 73), (some 74), none, [5, 37], none⟩]
def d6r10 : List RO := [
  ⟨.mov (.con (.v (.bool false))), (some 4), none, [], none⟩]
def d6r11 : List RO := [
  ⟨.mov (.tmp 6), (some 23), none, [], none⟩,
  ⟨.bin .add (.tmp 23) (.con (.v (.int .i64 1))), (some 24), none, [0], none⟩,
  ⟨.mov (.tmp 24), (some 6), none, [1, 0, 1], none⟩]
def d6r12 : List RO := [
  ⟨.mov (.con (.v (.bool true))), (some 4), none, [], none⟩]
def d6 : DC := (.seq (.region false d6r0)
  (.seq (.seq (.region false d6r1)
  (.cond (.tmp 10) (.seq (.region false d6r2)
  .ret)
  .skip))
  (.seq (.seq (.region false d6r3)
  (.cond (.tmp 14) (.seq (.region false d6r4)
  .ret)
  .skip))
  (.seq (.region false d6r5)
  (.seq (.seq (.region false d6r6)
  (.block 0 (.loop (.seq (.seq (.region false d6r7)
  (.cond (.tmp 22) .skip
  (.exit 0)))
  (.seq (.block 1 (.seq (.regionT d6r8)
  (.seq (.region false d6r9)
  (.cond (.tmp 74) (.seq (.region false d6r10)
  .ret)
  .skip))))
  (.region false d6r11))))))
  (.seq (.region false d6r12)
  .ret))))))
def d6res : List DRes := [.slot 4]
theorem c6 [Laid] : CodeOf Try.prog 6 75 d6 d6res := ⟨Try.f6, by kernel_rfl, by kernel_rfl, by kernel_rfl, by kernel_rfl, by kernel_rfl⟩
-- emendate/emendatelaw39.ItemsMoreExpensiveArc
end Go.Proofs
namespace Go.Proofs
open Go.DM Go.DM.Srt
set_option linter.unusedSimpArgs false
set_option linter.unusedVariables false

theorem hyper_len {n : Normal} {l : Lattice} (h : Fit n l) : (hyper n l).length ≤ 101000000000 := by
  unfold hyper
  rw [List.length_append]
  have h1 := h.sm.2.2.1
  have := allL_len h l.states.toNat (by omega)
  have := finL_len h l.final.length (Nat.le_refl _)
  omega

end Go.Proofs
namespace Go.Proofs
open Go.DM Go.DM.Srt
set_option linter.unusedSimpArgs false
set_option linter.unusedVariables false

/-- The hyperedges of an item, as the reference lists them. -/
def edgesK (nt st : Int) (rules : List Rule) (arcs : List Arc) (h s t : Int) (k : Nat) : List Edge :=
  (List.range k).flatMap fun k => if (rules.getD k default).head = h then inst nt st (rules.getD k default) arcs s t k else []
theorem edgesK_succ (nt st : Int) (rules : List Rule) (arcs : List Arc) (h s t : Int) (k : Nat) : edgesK nt st rules arcs h s t (k + 1) = edgesK nt st rules arcs h s t k ++ if (rules.getD k default).head = h then inst nt st (rules.getD k default) arcs s t k else [] := by
  simp [edgesK, List.range_succ]
theorem edgesK_len {n : Normal} {l : Lattice} (h : Fit n l) {hd s t : Int} (hf : okF s t) (k : Nat) (hk : k ≤ n.rules.length) : (edgesK n.nonterms l.states n.rules l.arcs hd s t k).length ≤ 10000000 := by
  have := flat_length (fun k => if (n.rules.getD k default).head = hd then inst n.nonterms l.states (n.rules.getD k default) l.arcs s t k else []) 10000 (List.range k) fun i _ => by
    split
    · exact inst_length _ _ _ _ _ _ _ h.narcs hf
    · simp
  have hn := h.nrules
  simp only [List.length_range] at this
  unfold edgesK
  omega

noncomputable def Γ38 : Env := envOf [(18, specP preNLX fnIdx false)]
theorem ok38 : EnvOk Try.prog Γ38 := by
  refine EnvOk.cons EnvOk.nil ?_
  rintro ts ⟨n, l, h, f, t, rfl, hs⟩
  exact ⟨by simpa [fnIdx, idxT] using t18 n l h f t hs, fun h => by cases h⟩
theorem inst2_succ (nt st : Int) (r : Rule) (arcs : List Arc) (f t k : Int) (i : Nat) : (List.range (i + 1)).flatMap (termAt nt st r arcs f t k) = (List.range i).flatMap (termAt nt st r arcs f t k) ++ termAt nt st r arcs f t k i := by
  simp [List.range_succ]
theorem bin_succ (nt st : Int) (r : Rule) (f t k : Int) (i : Nat) : (List.range (i + 1)).map (binAt nt st r f t k) = (List.range i).map (binAt nt st r f t k) ++ [binAt nt st r f t k i] := by
  simp [List.range_succ]

structure TermSt where
  i : Nat
  (c a b : Int)
structure BinSt where
  i : Nat
  tl : List (List T)
  (a b : Int)

set_option maxRecDepth 20000 in
set_option maxHeartbeats 8000000 in
theorem t38 (n : Normal) (l : Lattice) (hp : FairP n l) (h s t : Int) (hi : isItem n.nonterms l.states h s t) : CallsOk Try.prog 38 [n.enc, l.enc, .agg [ti h, ti s, ti t]] (.sl (edgesT (edgesK n.nonterms l.states n.rules l.arcs h s t n.rules.length))) := by
  have hΓ := ok38
  have hfit := hp.fit
  have hsm := hfit.sm
  have hidx : idxT n.nonterms l.states h s t = .tup [ti (idxI n.nonterms l.states h s t), .bool true] := by unfold idxT; rw [if_pos hi]
  have hi' := hi
  unfold isItem at hi'
  have hst := hp.st
  have hok : okF s t := ⟨by omega, by omega, by omega⟩
  refine c38.ok (by simp) (initSt_sat ?_)
  simp [Normal.enc, Lattice.enc]
  refine SatD.regSeq hΓ follows [3, 4, 5] ?_
  simp [d38r0]
  refine SatD.regSeq hΓ follows [3, 4, 5, 7] ?_
  simp [d38r1]
  obtain ⟨tn, htn⟩ : ∃ tn, T.box [ti n.terms, ti n.nonterms, ti n.start, .sl (rulesT n.rules)] = tn := ⟨_, rfl⟩
  obtain ⟨tl, htl⟩ : ∃ tl, T.box [ti l.states, .sl (arcsT l.arcs), .sl (intsT l.final)] = tl := ⟨_, rfl⟩
  refine SatD.le (Le.keep (o := []) (l := [(3, .v tn), (4, .v tl), (5, .v (.box [ti h, ti s, ti t])), (7, .nil0)]) (nxt' := 2000) ?_ ?_ ?_ ?_) ?_
  · simp
  · simp
  · simp
  · simp [← htn, ← htl]
  refine SatD.le (Le.nilSlot (k := 7) 47 (sz := 5) (by omega) (by simp)) ?_
  simp only [setO_obs]
  refine SatD.le (Le.keep (o := [(2000, .arr 0 47 5 [])]) (l := [(3, .v tn), (4, .v tl), (5, .v (.box [ti h, ti s, ti t])), (7, .aref 2000 0)]) (nxt' := 2500) ?_ ?_ ?_ ?_) ?_
  · simp
  · simp
  · simp
  · simp
  have hcall : ∀ a f u : Int, preNLX [.agg [ti n.terms, ti n.nonterms, ti n.start, .sl (rulesT n.rules)], .agg [ti l.states, .sl (arcsT l.arcs), .sl (intsT l.final)], .agg [ti a, ti f, ti u]] := fun a f u => ⟨n, l, a, f, u, rfl, hsm⟩
  refine SatD.regSeq hΓ follows [3, 4, 5, 7, 8] ?_
  simp only [d38r2, ← htn, ← htl]
  simp [Γ38, specP, fnIdx, hidx]
  refine ⟨hcall _ _ _, ?_⟩
  rw [htn, htl]
  obtain ⟨hd, hhd⟩ : ∃ hd, idxI n.nonterms l.states h s t = hd := ⟨_, rfl⟩
  rw [hhd]
  refine SatD.seq ?_
  refine SatD.regSeq hΓ follows [3, 4, 5, 7, 8, 10] ?_
  simp [d38r3]
  refine SatD.block ?_ -- 0
  refine SatD.loop (fun k : Nat => ⟨DM.look [(3, .v tn), (4, .v tl), (5, .v (.box [ti h, ti s, ti t])), (7, .aref 2000 0), (8, .v (ti hd)), (10, .v (ti k))], obs [(2000, .arr 0 47 5 (edgesT (edgesK n.nonterms l.states n.rules l.arcs h s t k)))], 3000, 1000, []⟩)
    (fun k => k ≤ n.rules.length) (fun k => n.rules.length - k) 0 (Le.keep ?_ ?_ ?_ ?_) (by simp) (fun k hk => ?_)
  · simp
  · simp
  · simp [edgesK, edgesT]
  · simp
  have hnr := hp.nr
  refine SatD.seq ?_
  refine SatD.regSeq hΓ follows [3, 4, 5, 7, 8, 10, 33] ?_
  simp only [d38r4, ← htn]
  simp
  refine SatD.cond rfl (fun hc => ?_) (fun hc => ?_)
  · simp at hc
    obtain ⟨r, hr⟩ : ∃ r, n.rules.getD k default = r := ⟨_, rfl⟩
    have hrow := rowAt_rules hc
    rw [hr] at hrow
    have hrm : r ∈ n.rules := by rw [← hr]; simp [hc]
    obtain ⟨rb, rk⟩ := hp.rules r hrm
    unfold ruleBad at rb
    unfold bodyOk at rk
    obtain ⟨es, hes⟩ : ∃ es, edgesK n.nonterms l.states n.rules l.arcs h s t k = es := ⟨_, rfl⟩
    have les : es.length ≤ 10000000 := by rw [← hes]; exact edgesK_len hfit hok k hk
    obtain ⟨new, hnew⟩ : ∃ new, (if r.head = h then inst n.nonterms l.states r l.arcs s t k else []) = new := ⟨_, rfl⟩
    have hsucc : edgesK n.nonterms l.states n.rules l.arcs h s t (k + 1) = es ++ new := by rw [edgesK_succ, hes, hr, hnew]
    rw [hes]
    refine SatD.skip ?_
    simp
    refine SatD.seq ?_
    refine SatD.to ⟨DM.look [(3, .v tn), (4, .v tl), (5, .v (.box [ti h, ti s, ti t])), (7, .aref 2000 0), (8, .v (ti hd)), (10, .v (ti k))], obs [(2000, .arr 0 47 5 (edgesT (es ++ new)))], 20000, 1000, []⟩ ?_ ?_
    · refine SatD.block ?_ -- 1
      refine SatD.regSeq hΓ follows [3, 4, 5, 7, 8, 10, 11] ?_
      simp only [d38r5, ← htn]
      simp [hrow, hc, Rule.enc]
      rw [htn]
      refine SatD.le (Le.keep (o := [(2000, .arr 0 47 5 (edgesT es))]) (l := [(3, .v tn), (4, .v tl), (5, .v (.box [ti h, ti s, ti t])), (7, .aref 2000 0), (8, .v (ti hd)), (10, .v (ti k)), (11, .v (.box [ti r.kind, ti r.head, ti r.a, ti r.b, ti r.price, ti r.origin]))]) (nxt' := 4000) ?_ ?_ ?_ ?_) ?_
      · simp
      · simp
      · simp
      · simp
      refine SatD.seq ?_
      refine SatD.regSeq hΓ follows [3, 4, 5, 7, 8, 10, 11, 45] ?_
      simp [d38r6]
      refine SatD.cond rfl (fun e => ?_) (fun e => ?_)
      · simp at e
        rw [if_neg e] at hnew
        subst hnew
        refine SatD.exit ?_
        simp [blockQ]
        refine Le.keep ?_ ?_ ?_ ?_
        · simp
        · simp
        · simp
        · simp
      · simp at e
        rw [if_pos e] at hnew
        have hinst := hnew
        refine SatD.skip ?_
        simp
        refine SatD.regSeq hΓ follows [3, 4, 5, 7, 8, 10, 11, 12] ?_
        simp [d38r7]
        refine SatD.regSeq hΓ follows [3, 4, 5, 7, 8, 10, 11, 12, 51] ?_
        simp [d38r8]
        refine SatD.block ?_ -- 2
        refine SatD.regSeq hΓ follows [3, 4, 5, 7, 8, 10, 11, 12, 51, 52] ?_
        simp [d38r9]
        have heq : ∀ (cost arg : Int) (tails : List Int), edgeOf n.nonterms l.states r s t k cost arg tails = ⟨hd, tails, min cost Inf, k, arg⟩ := by intro cost arg tails; unfold edgeOf; rw [e, hhd]
        have hmin : min r.price Inf = r.price := by simp only [Inf]; omega
        refine SatD.cond rfl (fun e1 => ?_) (fun e1 => ?_)
        · simp only [decide_eq_true_eq] at e1
          refine SatD.regSeq hΓ follows [3, 4, 5, 7, 8, 10, 12, 58] ?_
          simp [d38r10]
          refine SatD.cond rfl (fun e2 => ?_) (fun e2 => ?_)
          · simp only [decide_eq_true_eq] at e2
            have hn2 : new = [⟨hd, [], r.price, k, s⟩] := by rw [← hinst]; simp only [inst, e1, if_true, if_pos e2, heq, hmin]
            refine SatD.regSeq hΓ follows [3, 4, 5, 7, 8, 10, 12] ?_
            simp [d38r11]
            refine SatD.reg hΓ follows [3, 4, 5, 7, 8, 10] ?_
            simp [d38r12, roomOk]
            refine ⟨by omega, ?_⟩
            refine Le.keep ?_ ?_ ?_ ?_
            · simp
            · simp
            · simp [hn2, edgesT, Edge.enc, intsT]
            · simp
          · simp only [decide_eq_false_iff_not] at e2
            have hn2 : new = [] := by rw [← hinst]; simp [inst, e1, e2]
            refine SatD.skip ?_
            simp
            refine Le.keep ?_ ?_ ?_ ?_
            · simp
            · simp
            · simp [hn2]
            · simp
        simp only [decide_eq_false_iff_not] at e1
        refine SatD.regSeq hΓ follows [3, 4, 5, 7, 8, 10, 11, 12, 51, 68] ?_
        simp [d38r13]
        refine SatD.cond rfl (fun e2 => ?_) (fun e2 => ?_)
        · simp only [decide_eq_true_eq] at e2
          have hn2 : new = (List.range l.arcs.length).flatMap (termAt n.nonterms l.states r l.arcs s t k) := by rw [← hinst]; simp only [inst, e2]; rfl
          refine SatD.regSeq hΓ follows [3, 4, 5, 7, 8, 10, 11, 12, 13] ?_
          simp [d38r14]
          refine SatD.block ?_ -- 3
          obtain ⟨ts, hts⟩ : ∃ ts : Nat → List Edge, ∀ i, (List.range i).flatMap (termAt n.nonterms l.states r l.arcs s t k) = ts i := ⟨_, fun _ => rfl⟩
          have hts0 : ts 0 = [] := by rw [← hts]; rfl
          have htsS : ∀ i, ts (i + 1) = ts i ++ termAt n.nonterms l.states r l.arcs s t k i := fun i => by rw [← hts, ← hts, inst2_succ]
          have hna := hp.na
          have ltsl : ∀ i, (ts i).length ≤ i := by
            intro i
            induction i with
            | zero => rw [hts0]; simp
            | succ i ih => rw [htsS, List.length_append]; unfold termAt; split <;> simp <;> omega
          rw [hts] at hn2
          refine SatD.loop (fun y : TermSt => ⟨DM.look [(3, .v tn), (4, .v tl), (5, .v (.box [ti h, ti s, ti t])), (7, .aref 2000 0), (8, .v (ti hd)), (10, .v (ti k)), (11, .v (.box [ti r.kind, ti r.head, ti r.a, ti r.b, ti r.price, ti r.origin])), (12, .ptr 4204 0), (13, .v (ti y.i))],
              obs [(4204, .box [.v (ti hd), .nil0, .v (ti y.c), .v (ti y.a), .v (ti y.b)]), (2000, .arr 0 47 5 (edgesT (es ++ ts y.i)))], 6000, 1000, []⟩)
            (fun y => y.i ≤ l.arcs.length) (fun y => l.arcs.length - y.i) ⟨0, r.price, 0, 0⟩ (Le.keep ?_ ?_ ?_ ?_) (by simp) (fun y hy => ?_)
          · simp
          · simp
          · simp [hts0]
          · simp
          obtain ⟨i, c, a', b'⟩ := y
          simp only at hy ⊢
          refine SatD.seq ?_
          refine SatD.regSeq hΓ follows [3, 4, 5, 7, 8, 10, 11, 12, 13, 74] ?_
          simp only [d38r15, ← htl]
          simp
          refine SatD.cond rfl (fun h3 => ?_) (fun h3 => ?_)
          · simp at h3
            obtain ⟨a, hga⟩ : ∃ a, l.arcs.getD i default = a := ⟨_, rfl⟩
            have harow := rowAt_arcs h3
            rw [hga] at harow
            have hac := hp.arc a (by rw [← hga]; simp [h3])
            simp only [Inf] at hac
            have hl3 := ltsl i
            refine SatD.skip ?_
            simp
            refine SatD.seq ?_
            have hS := htsS i
            simp only [termAt, hga, heq] at hS
            obtain ⟨ei, hei⟩ : ∃ ei, (if a.f = s ∧ a.t = t ∧ a.term = r.a then [(⟨hd, [], min (r.price + a.cost) Inf, k, i⟩ : Edge)] else []) = ei := ⟨_, rfl⟩
            rw [hei] at hS
            -- what one round leaves: the cells of e may have turned
            refine SatD.mono_le (Q := fun e s1 => e = .normal ∧ ∃ c a b : Int, Le s1 ⟨DM.look [(3, .v tn), (4, .v tl), (5, .v (.box [ti h, ti s, ti t])), (7, .aref 2000 0), (8, .v (ti hd)), (10, .v (ti k)), (11, .v (.box [ti r.kind, ti r.head, ti r.a, ti r.b, ti r.price, ti r.origin])), (12, .ptr 4204 0), (13, .v (ti i))],
                obs [(4204, .box [.v (ti hd), .nil0, .v (ti c), .v (ti a), .v (ti b)]), (2000, .arr 0 47 5 (edgesT (es ++ ts (i + 1))))], 9000, 1000, []⟩) ?_ ?_
            · refine SatD.block ?_ -- 4
              refine SatD.regSeq hΓ follows [3, 4, 5, 7, 8, 10, 11, 12, 13, 14] ?_
              simp only [d38r16]
              simp [harow, h3, Arc.enc]
              refine SatD.le (Le.keep (o := [(4204, .box [.v (ti hd), .nil0, .v (ti c), .v (ti a'), .v (ti b')]), (2000, .arr 0 47 5 (edgesT (es ++ ts i)))]) (l := [(3, .v tn), (4, .v tl), (5, .v (.box [ti h, ti s, ti t])), (7, .aref 2000 0), (8, .v (ti hd)), (10, .v (ti k)), (11, .v (.box [ti r.kind, ti r.head, ti r.a, ti r.b, ti r.price, ti r.origin])), (12, .ptr 4204 0), (13, .v (ti i)), (14, .v (.box [ti a.f, ti a.t, ti a.term, ti a.cost, .sl (opsT a.ops)]))]) (nxt' := 7000) ?_ ?_ ?_ ?_) ?_
              · simp
              · simp
              · simp
              · simp [← htl]
              refine SatD.regToS hΓ follows [(3, .v tn), (4, .v tl), (5, .v (.box [ti h, ti s, ti t])), (7, .aref 2000 0), (8, .v (ti hd)), (10, .v (ti k)), (11, .v (.box [ti r.kind, ti r.head, ti r.a, ti r.b, ti r.price, ti r.origin])), (12, .ptr 4204 0), (13, .v (ti i)), (14, .v (.box [ti a.f, ti a.t, ti a.term, ti a.cost, .sl (opsT a.ops)])), (100, .v (.bool (decide (a.f = s ∧ a.t = t ∧ a.term = r.a))))] ?_ ?_
              · simp [d38r17]
                repeat' (first | apply And.intro | intro _)
                all_goals first | omega | (simp [*]; done) | (simp; omega)
              refine SatD.cond rfl (fun h4 => ?_) (fun h4 => ?_)
              · simp only [decide_eq_true_eq] at h4
                rw [if_pos h4] at hei
                have hwr : IntKind.i64.wrap (r.price + a.cost) = r.price + a.cost := wrap_id (by omega)
                refine SatD.regSeq hΓ follows [3, 4, 5, 7, 8, 10, 11, 12, 13, 14] ?_
                simp [d38r18]
                refine SatD.regSeq hΓ follows [3, 4, 5, 7, 8, 10, 11, 12, 13] ?_
                simp [d38r19, hwr]
                refine SatD.reg hΓ follows [3, 4, 5, 7, 8, 10, 11, 12, 13] ?_
                simp [d38r20, roomOk]
                refine ⟨by omega, min (r.price + a.cost) Inf, k, i, ?_⟩
                refine Le.keep ?_ ?_ ?_ ?_
                · simp
                · simp
                · simp [hS, ← hei, edgesT, Edge.enc, intsT, Inf]
                · simp
              · simp only [decide_eq_false_iff_not] at h4
                rw [if_neg h4] at hei
                refine SatD.skip ?_
                simp
                refine ⟨c, a', b', ?_⟩
                refine Le.keep ?_ ?_ ?_ ?_
                · simp
                · simp
                · simp [hS, ← hei]
                · simp
            · rintro e s1 ⟨rfl, c, a, b, hle⟩
              refine ⟨_, hle, ?_⟩
              simp
              refine SatD.reg hΓ follows [3, 4, 5, 7, 8, 10, 11, 12, 13] ?_
              simp [d38r21]
              refine ⟨⟨i + 1, c, a, b⟩, Le.keep ?_ ?_ ?_ ?_, ?_, ?_⟩
              · simp
              · simp
              · simp
              · simp
                rw [wrap_id (by omega)]
                exact ⟨htl, rfl⟩
              · simp only; omega
              · simp only; omega
          · simp at h3
            have hi4 : i = l.arcs.length := by omega
            subst hi4
            refine SatD.exit ?_
            simp
            refine Le.keep ?_ ?_ ?_ ?_
            · simp
            · simp
            · simp [hn2]
            · simp
        simp only [decide_eq_false_iff_not] at e2
        have hidx2 : ∀ a f u : Int, 0 ≤ a → a < n.nonterms → 0 ≤ f → f ≤ u → u < l.states → idxT n.nonterms l.states a f u = .tup [ti (idxI n.nonterms l.states a f u), .bool true] := by
          intro a f u k1 k2 k3 k4 k5
          unfold idxT
          rw [if_pos (by unfold isItem; omega)]
        refine SatD.regSeq hΓ follows [3, 4, 5, 7, 8, 10, 11, 12, 51, 116] ?_
        simp [d38r22]
        refine SatD.cond rfl (fun e3 => ?_) (fun e3 => ?_)
        · simp only [decide_eq_true_eq] at e3
          have hn2 : new = [⟨hd, [idxI n.nonterms l.states r.a s t], r.price, k, s⟩] := by rw [← hinst]; simp only [inst, e3]; simp only [heq, hmin]; rfl
          have hx := hidx2 r.a s t (by omega) (by omega) (by omega) (by omega) (by omega)
          refine SatD.regSeq hΓ follows [3, 4, 5, 7, 8, 10, 12, 15] ?_
          simp only [d38r23, ← htn, ← htl]
          simp [Γ38, specP, fnIdx, hx]
          rw [htn, htl]
          refine ⟨hcall _ _ _, ?_⟩
          refine SatD.regSeq hΓ follows [3, 4, 5, 7, 8, 10, 12, 15] ?_
          simp [d38r24]
          refine SatD.regSeq hΓ follows [3, 4, 5, 7, 8, 10, 12] ?_
          simp [d38r25]
          refine SatD.reg hΓ follows [3, 4, 5, 7, 8, 10] ?_
          simp [d38r26, roomOk]
          refine ⟨by omega, ?_⟩
          refine Le.keep ?_ ?_ ?_ ?_
          · simp
          · simp
          · simp [hn2, edgesT, Edge.enc, intsT]
          · simp
        simp only [decide_eq_false_iff_not] at e3
        have e4 : r.kind = 4 := by omega
        obtain ⟨N, hN⟩ : ∃ N, (t - s + 1).toNat = N := ⟨_, rfl⟩
        have hn2 : new = (List.range N).map (binAt n.nonterms l.states r s t k) := by rw [← hinst, ← hN]; simp only [inst, e4]; rfl
        refine SatD.regSeq hΓ follows [3, 4, 5, 7, 8, 10, 11, 12, 143] ?_
        simp [d38r27]
        refine SatD.cond rfl (fun e5 => ?_) (fun e5 => ?_)
        · clear e5
          refine SatD.regSeq hΓ follows [3, 4, 5, 7, 8, 10, 11, 12, 17] ?_
          simp [d38r28]
          refine SatD.block ?_ -- 5
          obtain ⟨ts, hts⟩ : ∃ ts : Nat → List Edge, ∀ i, (List.range i).map (binAt n.nonterms l.states r s t k) = ts i := ⟨_, fun _ => rfl⟩
          have hts0 : ts 0 = [] := by rw [← hts]; rfl
          have htsS : ∀ i, ts (i + 1) = ts i ++ [binAt n.nonterms l.states r s t k i] := fun i => by rw [← hts, ← hts, bin_succ]
          have ltsl : ∀ i, (ts i).length = i := by
            intro i
            rw [← hts]; simp
          rw [hts] at hn2
          refine SatD.loop (fun y : BinSt => ⟨DM.look [(3, .v tn), (4, .v tl), (5, .v (.box [ti h, ti s, ti t])), (7, .aref 2000 0), (8, .v (ti hd)), (10, .v (ti k)), (11, .v (.box [ti r.kind, ti r.head, ti r.a, ti r.b, ti r.price, ti r.origin])), (12, .ptr 4204 0), (17, .v (ti (s + y.i)))],
              obs [(4204, .box [.v (ti hd), .v (.sl y.tl), .v (ti r.price), .v (ti y.a), .v (ti y.b)]), (2000, .arr 0 47 5 (edgesT (es ++ ts y.i)))], 6000, 1000, []⟩)
            (fun y => y.i ≤ N) (fun y => N - y.i) ⟨0, [], 0, 0⟩ (Le.keep ?_ ?_ ?_ ?_) (by simp) (fun y hy => ?_)
          · simp
          · simp
          · simp [hts0]
          · simp
          obtain ⟨i, tl', a', b'⟩ := y
          simp only at hy ⊢
          refine SatD.seq ?_
          refine SatD.regSeq hΓ follows [3, 4, 5, 7, 8, 10, 11, 12, 17, 150] ?_
          simp [d38r29]
          refine SatD.cond rfl (fun h3 => ?_) (fun h3 => ?_)
          · simp at h3
            have hl3 := ltsl i
            have hx := hidx2 r.a s (s + i) (by omega) (by omega) (by omega) (by omega) (by omega)
            have hy2 := hidx2 r.b (s + i) t (by omega) (by omega) (by omega) (by omega) (by omega)
            have hS := htsS i
            simp only [binAt, heq, hmin] at hS
            refine SatD.skip ?_
            simp
            refine SatD.seq ?_
            refine SatD.block ?_ -- 6
            refine SatD.regSeq hΓ follows [3, 4, 5, 7, 8, 10, 11, 12, 17, 18] ?_
            simp only [d38r30, ← htn, ← htl]
            simp [Γ38, specP, fnIdx, hx]
            refine ⟨hcall _ _ _, ?_⟩
            refine SatD.regSeq hΓ follows [3, 4, 5, 7, 8, 10, 11, 12, 17, 18, 20] ?_
            simp [d38r31, Γ38, specP, fnIdx, hy2]
            refine ⟨hcall _ _ _, ?_⟩
            rw [htn, htl]
            refine SatD.regSeq hΓ follows [3, 4, 5, 7, 8, 10, 11, 12, 17, 18, 20] ?_
            simp [d38r32]
            refine SatD.regSeq hΓ follows [3, 4, 5, 7, 8, 10, 11, 12, 17] ?_
            simp [d38r33]
            refine SatD.reg hΓ follows [3, 4, 5, 7, 8, 10, 11, 12, 17] ?_
            simp [d38r34, roomOk]
            refine ⟨by omega, ?_⟩
            refine SatD.reg hΓ follows [3, 4, 5, 7, 8, 10, 11, 12, 17] ?_
            simp [d38r35]
            refine ⟨⟨i + 1, [[ti (idxI n.nonterms l.states r.a s (s + i))], [ti (idxI n.nonterms l.states r.b (s + i) t)]], k, s + i⟩, Le.keep ?_ ?_ ?_ ?_, ?_, ?_⟩
            · simp
            · simp
            · simp [hS, edgesT, Edge.enc, intsT]
            · simp
              rw [wrap_id (by omega)]
              omega
            · simp only; omega
            · simp only; omega
          · simp at h3
            have hi4 : i = N := by omega
            subst hi4
            refine SatD.exit ?_
            simp
            refine Le.keep ?_ ?_ ?_ ?_
            · simp
            · simp
            · simp [hn2]
            · simp
        · simp only [decide_eq_false_iff_not] at e5
          exact absurd e4 e5
    · simp
      refine SatD.reg hΓ follows [3, 4, 5, 7, 8, 10] ?_
      simp [d38r36]
      refine ⟨k + 1, Le.keep ?_ ?_ ?_ ?_, ?_, ?_⟩ -- next round
      · simp
      · simp
      · simp [hsucc]
      · simp
        rw [wrap_id (by omega)]
        exact ⟨htn, rfl⟩
      · omega
      · omega
  · simp at hc
    have hkR : k = n.rules.length := by omega
    subst hkR
    refine SatD.exit ?_
    simp
    refine SatD.regSeq hΓ follows [6] ?_
    simp [d38r37]
    refine SatD.ret ?_
    simp [d38res]
end Go.Proofs
/- The reference's list of a span's hyperedges is the sorted list. Conditions: none. -/
namespace Go.Proofs
open Go.DM Go.DM.Srt
set_option linter.unusedSimpArgs false
set_option linter.unusedVariables false

def itemL (nt st : Int) (rules : List Rule) (arcs : List Arc) (s t : Int) (h : Nat) : List Edge := (List.range h).flatMap fun h : Nat => edgesK nt st rules arcs h s t rules.length
theorem itemL_succ (nt st : Int) (rules : List Rule) (arcs : List Arc) (s t : Int) (h : Nat) : itemL nt st rules arcs s t (h + 1) = itemL nt st rules arcs s t h ++ edgesK nt st rules arcs h s t rules.length := by
  simp [itemL, List.range_succ]
theorem edgesK_head {nt st : Int} {rules : List Rule} {arcs : List Arc} {h s t : Int} {k : Nat} {e : Edge} (he : e ∈ edgesK nt st rules arcs h s t k) : e.head = idxI nt st h s t := by
  unfold edgesK at he
  simp only [List.mem_flatMap] at he
  obtain ⟨i, _, he⟩ := he
  split at he
  · rename_i e'
    rw [inst_head he, e']
  · cases he
theorem flat_one {β : Type} (X : Nat → List β) (h0 : Nat) : ∀ m : Nat, (List.range m).flatMap (fun h => if h = h0 then X h else []) = if h0 < m then X h0 else []
  | 0 => by simp
  | m + 1 => by
    rw [List.range_succ, List.flatMap_append, flat_one X h0 m]
    simp only [List.flatMap_cons, List.flatMap_nil, List.append_nil]
    by_cases h1 : h0 < m
    · rw [if_pos h1, if_neg (by omega), if_pos (by omega), List.append_nil]
    · by_cases h2 : m = h0
      · rw [if_neg h1, if_pos h2, if_pos (by omega), h2]; rfl
      · rw [if_neg h1, if_neg h2, if_neg (by omega)]; rfl
theorem filter_all {β : Type} {p : β → Bool} {l : List β} {b : Bool} (h : ∀ x ∈ l, p x = b) : l.filter p = if b = true then l else [] := by
  cases b with
  | true => rw [if_pos rfl]; exact List.filter_eq_self.2 h
  | false => rw [if_neg (by simp)]; exact List.filter_eq_nil_iff.2 fun x hx => by rw [h x hx]; simp
theorem filter_flat {β : Type} (p : β → Bool) (g : Nat → List β) (q : Nat → Bool) : ∀ l : List Nat, (∀ h ∈ l, ∀ x ∈ g h, p x = q h) → (l.flatMap g).filter p = l.flatMap fun h => if q h = true then g h else []
  | [], _ => rfl
  | h :: l, hp => by
    rw [List.flatMap_cons, List.filter_append, filter_flat p g q l fun i hi => hp i (by simp [hi]), List.flatMap_cons, filter_all (hp h (by simp))]
theorem eqvH_eq (z e : Edge) : eqv ltH z e = decide (z.head = e.head) := by
  rw [Bool.eq_iff_iff, eqvH, decide_eq_true_eq]
theorem flat_congr {β : Type} {g g' : Nat → List β} {l : List Nat} (h : ∀ i ∈ l, g i = g' i) : l.flatMap g = l.flatMap g' := by
  induction l with
  | nil => rfl
  | cons x l ih => rw [List.flatMap_cons, List.flatMap_cons, h x (by simp), ih fun i hi => h i (by simp [hi])]

theorem span_eq {n : Normal} {l : Lattice} (hp : FairP n l) {s t : Int} (hs : 0 ≤ s) : spanE n.nonterms l.states n.rules l.arcs s t = itemL n.nonterms l.states n.rules l.arcs s t n.nonterms.toNat := by
  have hnt := hp.nt
  unfold spanE
  refine isort_eq swoH ?_ fun z => ?_
  · unfold Sorted itemL
    rw [List.pairwise_flatMap]
    refine ⟨fun h hh => ?_, (range_lt _).imp fun {a b} hab x hx y hy => ?_⟩
    · rw [List.pairwise_iff_forall_sublist]
      intro a b hsub
      have h1 := edgesK_head (hsub.subset (by simp : a ∈ [a, b]))
      have h2 := edgesK_head (hsub.subset (by simp : b ∈ [a, b]))
      simp only [ltH, h1, h2, decide_eq_false_iff_not]; omega
    · have h1 := edgesK_head hx
      have h2 := edgesK_head hy
      simp only [ltH, h1, h2, decide_eq_false_iff_not, idx_eq hs]; omega
  · have e1 : (itemL n.nonterms l.states n.rules l.arcs s t n.nonterms.toNat).filter (eqv ltH z) = (List.range n.nonterms.toNat).flatMap fun h : Nat => if decide (z.head = idxI n.nonterms l.states h s t) = true then edgesK n.nonterms l.states n.rules l.arcs h s t n.rules.length else [] := by
      unfold itemL
      exact filter_flat _ _ (fun h : Nat => decide (z.head = idxI n.nonterms l.states h s t)) _ fun h _ x hx => by rw [eqvH_eq, edgesK_head hx]
    have e2 : (spanL n.nonterms l.states n.rules l.arcs s t n.rules.length).filter (eqv ltH z) = (List.range n.rules.length).flatMap fun k => if decide (z.head = idxI n.nonterms l.states (n.rules.getD k default).head s t) = true then inst n.nonterms l.states (n.rules.getD k default) l.arcs s t k else [] := by
      unfold spanL
      exact filter_flat _ _ (fun k => decide (z.head = idxI n.nonterms l.states (n.rules.getD k default).head s t)) _ fun k _ x hx => by rw [eqvH_eq, inst_head hx]
    rw [e1, e2]
    simp only [decide_eq_true_eq, idx_eq hs]
    obtain ⟨h0, hh0⟩ : ∃ h0 : Int, z.head = spanI l.states s t * n.nonterms + h0 := ⟨z.head - spanI l.states s t * n.nonterms, by omega⟩
    rw [hh0]
    by_cases hr : 0 ≤ h0 ∧ h0 < n.nonterms
    · have e3 : (List.range n.nonterms.toNat).flatMap (fun h : Nat => if spanI l.states s t * n.nonterms + h0 = spanI l.states s t * n.nonterms + (h : Int) then edgesK n.nonterms l.states n.rules l.arcs h s t n.rules.length else [])
          = (List.range n.nonterms.toNat).flatMap (fun h : Nat => if h = h0.toNat then edgesK n.nonterms l.states n.rules l.arcs h s t n.rules.length else []) := by
        refine flat_congr fun i _ => ?_
        by_cases e : i = h0.toNat
        · rw [if_pos e, if_pos (by omega)]
        · rw [if_neg e, if_neg (by omega)]
      rw [e3, flat_one, if_pos (by omega)]
      unfold edgesK
      refine flat_congr fun i _ => ?_
      rw [show ((h0.toNat : Nat) : Int) = h0 by omega]
      by_cases e : (n.rules.getD i default).head = h0
      · rw [if_pos e, if_pos (by omega)]
      · rw [if_neg e, if_neg (by omega)]
    · have z1 : ∀ (g : Nat → List Edge) (l : List Nat), (∀ i ∈ l, g i = []) → l.flatMap g = [] := fun g l h => by rw [flat_congr (g' := fun _ => []) h]; simp
      rw [z1 _ _ fun i hi => ?_, z1 _ _ fun i hi => ?_]
      · rw [List.mem_range] at hi
        have := hp.head (n.rules.getD i default) (by simp [hi])
        exact if_neg (by omega)
      · rw [List.mem_range] at hi
        exact if_neg (by omega)
end Go.Proofs
