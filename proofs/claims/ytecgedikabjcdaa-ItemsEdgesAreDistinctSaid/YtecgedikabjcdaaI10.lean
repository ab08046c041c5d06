import Derived.Test.YtecgedikabjcdaaI9
namespace Go.Proofs
open Go.DM
set_option linter.unusedSimpArgs false
set_option linter.unusedVariables false

def pre46 (ts : List T) : Prop := ∃ (nt st : Int) (r : Rule) (f t k cost arg : Int) (tails : List Int), ts = [ti cost, ti arg, .sl (intsT tails), .box [ti nt, ti st], .box r.enc, .box [ti f], .box [ti t], .box [ti k]] ∧ sm nt st ∧ okR r ∧ okF f t
def fn46 : List T → T
  | [.int _ cost, .int _ arg, .sl tails, .box [.int _ nt, .int _ st], .box r, .box [.int _ f], .box [.int _ t], .box [.int _ k]] =>
    .agg (edgeOf nt st (decRule r) f t k cost arg (decInts tails)).enc
  | _ => .bool false
@[simp] theorem decRule_enc (r : Rule) : decRule r.enc = r := rfl
@[simp] theorem decRule_enc' (a b c d e f : Int) : decRule [ti a, ti b, ti c, ti d, ti e, ti f] = ⟨a, b, c, d, e, f⟩ := rfl
def Γ6 : Env := envOf [(37, spec37), (46, specP pre46 fn46 false)]
theorem ok6 : EnvOk Try.prog Γ6 := by
  refine EnvOk.cons (EnvOk.cons EnvOk.nil ?_) ?_
  · rintro ts ⟨nt, st, r, f, t, k, cost, arg, tails, rfl, h1, h2, h3⟩
    exact ⟨by simpa [fn46, caps46] using t46 nt st r f t k cost arg tails h1 h2 h3, by intro h; cases h⟩
  · intro ts h
    match ts, h with
    | [.agg [.int .i64 nt, .int .i64 st], .int .i64 h, .int .i64 f, .int .i64 t], h1 => exact ⟨t37 EnvOk.nil nt st h f t h1.1 h1.2, fun _ => rfl⟩

/-- The hyperedges that a rule has for a span. -/
def inst (nt st : Int) (r : Rule) (arcs : List Arc) (f t k : Int) : List Edge :=
  if r.kind = 1 then (if f = t then [edgeOf nt st r f t k r.price f []] else [])
  else if r.kind = 2 then (List.range arcs.length).flatMap fun i => if (arcs.getD i default).f = f ∧ (arcs.getD i default).t = t ∧ (arcs.getD i default).term = r.a then [edgeOf nt st r f t k (r.price + (arcs.getD i default).cost) i []] else []
  else if r.kind = 3 then [edgeOf nt st r f t k r.price f [idxI nt st r.a f t]]
  else if r.kind = 4 then (List.range (t - f + 1).toNat).map fun j : Nat => edgeOf nt st r f t k r.price (f + j) [idxI nt st r.a f (f + j), idxI nt st r.b (f + j) t]
  else []
def yieldsOf (l : List Edge) : List (List T) := l.map fun e => [.agg e.enc]
def okR2 (r : Rule) : Prop := okR r ∧ (r.kind = 3 → 0 ≤ r.a ∧ r.a ≤ 1000) ∧ (r.kind = 4 → 0 ≤ r.a ∧ r.a ≤ 1000 ∧ 0 ≤ r.b ∧ r.b ≤ 1000)
def okArcs (l : List Arc) : Prop := l.length ≤ 140737488355328 ∧ ∀ a ∈ l, 0 ≤ a.cost ∧ a.cost ≤ Inf

@[simp] theorem obsNil : (obs [] = fun _ => none) = True := by simp; funext; rfl
@[simp] theorem decInts_nil : decInts [] = [] := rfl
@[simp] theorem decInts_one (a : Int) : decInts [[ti a]] = [a] := rfl
@[simp] theorem decInts_two (a b : Int) : decInts [[ti a], [ti b]] = [a, b] := rfl

/-- What an arc gives. -/
def termAt (nt st : Int) (r : Rule) (arcs : List Arc) (f t k : Int) (i : Nat) : List Edge :=
  if (arcs.getD i default).f = f ∧ (arcs.getD i default).t = t ∧ (arcs.getD i default).term = r.a then [edgeOf nt st r f t k (r.price + (arcs.getD i default).cost) i []] else []
def binAt (nt st : Int) (r : Rule) (f t k : Int) (j : Nat) : Edge := edgeOf nt st r f t k r.price (f + j) [idxI nt st r.a f (f + j), idxI nt st r.b (f + j) t]
theorem range_drop {n y : Nat} (h : y < n) : (List.range n).drop y = y :: (List.range n).drop (y + 1) := by
  rw [List.drop_eq_getElem_cons (by simpa using h)]
  simp

@[simp] theorem drop_range_self (n : Nat) : (List.range n).drop n = [] := List.drop_eq_nil_of_le (by simp)
@[simp] theorem chunk_one (a : T) : chunk 1 1 [a] = [[a]] := rfl
@[simp] theorem chunk_two (a b : T) : chunk 1 2 [a, b] = [[a], [b]] := rfl

set_option maxRecDepth 20000 in
theorem t47 (nt st : Int) (r : Rule) (arcs : List Arc) (fin : List Int) (f t k : Int) (h : sm nt st) (hr : okR2 r) (hf : okF f t) (ha : okArcs arcs) :
    ItOk Try.prog 47 (caps47 nt st r arcs fin f t k) (yieldsOf (inst nt st r arcs f t k)) := by
  have hΓ := ok6
  obtain ⟨tot, htot⟩ : ∃ tot, yieldsOf (inst nt st r arcs f t k) = tot := ⟨_, rfl⟩
  rw [htot]
  refine c47.okI (by simp [caps47]) (initI_sat ?_)
  simp [caps47, Rule.enc, caps46]
  refine SatD.regSeq hΓ follows [0, 1, 2, 3, 4, 5, 6, 12] ?_
  simp [d47r0]
  refine SatD.block ?_ -- 0
  refine SatD.regSeq hΓ follows [0, 1, 2, 3, 4, 5, 6, 12, 13] ?_
  simp [d47r1]
  obtain ⟨hr1, hr3, hr4⟩ := hr
  have hcall : ∀ (cost arg : Int) (tails : List (List T)), (∃ l, tails = intsT l) → pre46 [ti cost, ti arg, .sl tails, .box [ti nt, ti st], .box [ti r.kind, ti r.head, ti r.a, ti r.b, ti r.price, ti r.origin], .box [ti f], .box [ti t], .box [ti k]] := by
    rintro cost arg _ ⟨l, rfl⟩
    exact ⟨nt, st, r, f, t, k, cost, arg, l, rfl, h, hr1, hf⟩
  have hcall37 : ∀ a f' t', 0 ≤ a ∧ a ≤ 1000 → 0 ≤ f' ∧ f' ≤ 1000 → 0 ≤ t' ∧ t' ≤ 1000 → pre37 [.agg [ti nt, ti st], ti a, ti f', ti t'] := fun a f' t' h1 h2 h3 => ⟨h, h1.1, h1.2, h2.1, h2.2, h3.1, h3.2⟩
  obtain ⟨hf1, hf2, hf3⟩ := hf
  refine SatD.cond rfl (fun e1 => ?_) (fun e1 => ?_)
  · simp only [decide_eq_true_eq] at e1
    refine SatD.regSeq hΓ follows [0, 1, 2, 4, 17] ?_
    simp [d47r2]
    refine SatD.cond rfl (fun e2 => ?_) (fun e2 => ?_)
    · simp only [decide_eq_true_eq] at e2
      have hi : tot = [[.agg (edgeOf nt st r f t k r.price f []).enc]] := by rw [← htot]; simp [inst, e1, e2, yieldsOf]
      rw [hi]
      refine SatD.reg hΓ follows [] ?_
      simp [d47r3, Γ6, specP, fn46, yieldsOf, finI]
      exact hcall _ _ _ ⟨[], rfl⟩
    · refine SatD.skip ?_
      simp only [decide_eq_false_iff_not] at e2
      have hi : tot = [] := by rw [← htot]; simp [inst, e1, e2, yieldsOf]
      simp [hi, finI]
  simp only [decide_eq_false_iff_not] at e1
  refine SatD.regSeq hΓ follows [0, 1, 2, 3, 4, 5, 6, 12, 25] ?_
  simp [d47r4]
  refine SatD.cond rfl (fun e2 => ?_) (fun e2 => ?_)
  · simp only [decide_eq_true_eq] at e2
    have hi : tot = yieldsOf ((List.range arcs.length).flatMap (termAt nt st r arcs f t k)) := by rw [← htot]; simp only [inst, e2]; rfl
    refine SatD.regSeq hΓ follows [0, 1, 2, 3, 4, 28, 29, 30] ?_
    simp [d47r5]
    refine SatD.block ?_ -- 1
    refine SatD.loop (fun y : Nat => ⟨DM.look [(0, .yld), (1, .v (.box r.enc)), (2, .v (.box [ti f])), (3, .v (.box [ti t])), (4, .v (.box [.fn (.func 46) (caps46 nt st r f t k)])), (28, .v (.sl (arcsT arcs))), (29, .v (ti arcs.length)), (30, .v (ti y))], obs [], 2000, 0, yieldsOf (((List.range arcs.length).drop y).flatMap (termAt nt st r arcs f t k))⟩)
      (fun y => y ≤ arcs.length) (fun y => arcs.length - y) 0 ?_ (by simp) (fun y hy => ?_)
    · rw [hi]
      refine Le.keep ?_ ?_ ?_ ?_
      · simp
      · simp
      · simp
      · simp [Rule.enc, caps46]
    have hlen := ha.1
    refine SatD.regSeq hΓ follows [0, 1, 2, 3, 4, 28, 29, 30, 31] ?_
    simp [d47r6]
    refine SatD.seq ?_
    refine SatD.cond rfl (fun hc => ?_) (fun hc => ?_)
    · simp at hc
      obtain ⟨a, hga⟩ : ∃ a, arcs.getD y default = a := ⟨_, rfl⟩
      have hrow := rowAt_arcs hc
      rw [hga] at hrow
      have hac : 0 ≤ a.cost ∧ a.cost ≤ Inf := ha.2 a (by rw [← hga]; simp [hc])
      rw [range_drop hc]
      simp only [List.flatMap_cons, yieldsOf, List.map_append]
      refine SatD.skip ?_
      simp
      refine SatD.seq ?_
      refine SatD.block ?_ -- 2
      refine SatD.regSeq hΓ follows [0, 1, 2, 3, 4, 8, 9, 28, 29, 30] ?_
      simp [d47r7, hrow, hc, Arc.enc]
      refine SatD.le (Le.keep (o := []) (l := [(0, .yld), (1, .v (.box r.enc)), (2, .v (.box [ti f])), (3, .v (.box [ti t])), (4, .v (.box [.fn (.func 46) (caps46 nt st r f t k)])), (8, .v (ti y)), (9, .v (.box a.enc)), (28, .v (.sl (arcsT arcs))), (29, .v (ti arcs.length)), (30, .v (ti y))]) (nxt' := 3000) ?_ ?_ ?_ ?_) ?_
      · simp
      · simp
      · simp
      · simp [Rule.enc, caps46, Arc.enc]
      simp only [Inf] at hac
      have hwr : IntKind.i64.wrap (r.price + a.cost) = r.price + a.cost := wrap_id (by unfold okR at hr1; omega)
      refine SatD.to ⟨DM.look [(0, .yld), (1, .v (.box r.enc)), (2, .v (.box [ti f])), (3, .v (.box [ti t])), (4, .v (.box [.fn (.func 46) (caps46 nt st r f t k)])), (28, .v (.sl (arcsT arcs))), (29, .v (ti arcs.length)), (30, .v (ti y))], obs [], 4000, 0, yieldsOf (((List.range arcs.length).drop (y + 1)).flatMap (termAt nt st r arcs f t k))⟩ ?_ ?_
      · by_cases hm : a.f = f ∧ a.t = t ∧ a.term = r.a
        · obtain ⟨m1, m2, m3⟩ := hm
          have ht : termAt nt st r arcs f t k y = [edgeOf nt st r f t k (r.price + a.cost) y []] := by simp only [termAt, hga, m1, m2, m3, and_self, if_true]
          simp only [ht, List.map_cons, List.map_nil, List.cons_append, List.nil_append]
          refine SatD.regSeq hΓ follows [0, 1, 2, 3, 4, 28, 29, 30, 64] ?_
          simp only [d47r8, Arc.enc, Rule.enc, caps46]
          simp [Γ6, specP, fn46, m1, m2, m3, hwr]
          refine ⟨hcall _ _ _ ⟨[], rfl⟩, ?_⟩
          refine SatD.cond rfl (fun h => by cases h) (fun _ => ?_)
          refine SatD.skip ?_
          refine ⟨rfl, Le.keep ?_ ?_ ?_ ?_⟩ <;> simp
        · have ht : termAt nt st r arcs f t k y = [] := by simp only [termAt, hga, hm, if_false]
          simp only [ht, List.map_nil, List.nil_append]
          refine SatD.regToS hΓ follows [(0, .yld), (1, .v (.box r.enc)), (2, .v (.box [ti f])), (3, .v (.box [ti t])), (4, .v (.box [.fn (.func 46) (caps46 nt st r f t k)])), (28, .v (.sl (arcsT arcs))), (29, .v (ti arcs.length)), (30, .v (ti y)), (64, .v (.bool false))] ?_ ?_
          · simp only [d47r8, Arc.enc, Rule.enc, caps46]
            simp [Γ6, specP, fn46, hwr]
            intro m1 m2 m3
            exact absurd ⟨m1, m2, m3⟩ hm
          refine SatD.cond rfl (fun h => by cases h) (fun _ => ?_)
          refine SatD.skip ?_
          refine ⟨rfl, Le.keep ?_ ?_ ?_ ?_⟩ <;> simp [yieldsOf]
      · simp
        refine SatD.reg hΓ follows [0, 1, 2, 3, 4, 28, 29, 30] ?_
        simp [d47r9]
        refine ⟨y + 1, Le.keep ?_ ?_ ?_ ?_, ?_, ?_⟩ -- next round
        · simp
        · simp
        · simp
        · simp
          exact (wrap_id (by omega)).symm
        · omega
        · omega
    · simp at hc
      have hy2 : y = arcs.length := by omega
      subst hy2
      refine SatD.exit ?_
      simp [finI, yieldsOf]
  simp only [decide_eq_false_iff_not] at e2
  refine SatD.regSeq hΓ follows [0, 1, 2, 3, 4, 6, 12, 66] ?_
  simp [d47r10]
  refine SatD.cond rfl (fun e3 => ?_) (fun e3 => ?_)
  · simp only [decide_eq_true_eq] at e3
    have hi : tot = yieldsOf [edgeOf nt st r f t k r.price f [idxI nt st r.a f t]] := by rw [← htot]; simp only [inst, e3]; rfl
    rw [hi]
    refine SatD.reg hΓ follows [] ?_
    simp [d47r11, Γ6, specP, fn46, yieldsOf, finI, spec37, fn37]
    exact ⟨hcall37 _ _ _ (hr3 e3) (by omega) (by omega), hcall _ _ _ ⟨[_], rfl⟩⟩
  simp only [decide_eq_false_iff_not] at e3
  refine SatD.regSeq hΓ follows [0, 1, 2, 3, 4, 6, 82] ?_
  simp [d47r12]
  refine SatD.cond rfl (fun e4 => ?_) (fun e4 => ?_)
  · simp only [decide_eq_true_eq] at e4
    obtain ⟨N, hN⟩ : ∃ N, (t - f + 1).toNat = N := ⟨_, rfl⟩
    have hi : tot = yieldsOf ((List.range N).map (binAt nt st r f t k)) := by rw [← htot, ← hN]; simp only [inst, e4]; rfl
    refine SatD.regSeq hΓ follows [0, 1, 2, 3, 4, 6, 10] ?_
    simp [d47r13]
    obtain ⟨rest, hrest⟩ : ∃ rest : Nat → List (List T), ∀ y, rest y = yieldsOf (((List.range N).drop y).map (binAt nt st r f t k)) := ⟨_, fun _ => rfl⟩
    refine SatD.block ?_ -- 3
    refine SatD.loop (fun y : Nat => ⟨DM.look [(0, .yld), (1, .v (.box r.enc)), (2, .v (.box [ti f])), (3, .v (.box [ti t])), (4, .v (.box [.fn (.func 46) (caps46 nt st r f t k)])), (6, .v (.box [ti nt, ti st])), (10, .v (ti (f + y)))], obs [], 2000, 0, rest y⟩)
      (fun y => y ≤ N) (fun y => N - y) 0 ?_ (by simp) (fun y hy => ?_)
    · rw [hi, show yieldsOf ((List.range N).map (binAt nt st r f t k)) = rest 0 by rw [hrest]; rfl]
      refine Le.keep ?_ ?_ ?_ ?_
      · simp
      · simp
      · simp
      · simp [Rule.enc, caps46]
    refine SatD.seq ?_
    refine SatD.regSeq hΓ follows [0, 1, 2, 3, 4, 6, 10, 87] ?_
    simp [d47r14]
    refine SatD.cond rfl (fun hc => ?_) (fun hc => ?_)
    · simp at hc
      have hyN : y < N := by omega
      have hry : rest y = [.agg (binAt nt st r f t k y).enc] :: rest (y + 1) := by rw [hrest, hrest, range_drop hyN]; rfl
      rw [hry]
      obtain ⟨g1, g2, g3, g4⟩ := hr4 e4
      refine SatD.skip ?_
      simp
      refine SatD.seq ?_
      refine SatD.block ?_ -- 4
      refine SatD.regSeq hΓ follows [0, 1, 2, 3, 4, 6, 10, 110] ?_
      simp only [d47r15, Rule.enc, caps46]
      simp [Γ6, specP, fn46, spec37, fn37, binAt]
      refine ⟨hcall37 _ _ _ (by omega) (by omega) (by omega), hcall37 _ _ _ (by omega) (by omega) (by omega), hcall _ _ _ ⟨[_, _], rfl⟩, ?_⟩
      refine SatD.cond rfl (fun h => by cases h) (fun _ => ?_)
      refine SatD.skip ?_
      simp
      refine SatD.reg hΓ follows [0, 1, 2, 3, 4, 6, 10] ?_
      simp [d47r16]
      refine ⟨y + 1, Le.keep ?_ ?_ ?_ ?_, ?_, ?_⟩ -- next round
      · simp
      · simp
      · simp
      · simp [Rule.enc, caps46]
        rw [wrap_id (by omega)]; omega
      · omega
      · omega
    · simp at hc
      have hy2 : y = N := by omega
      subst hy2
      refine SatD.exit ?_
      simp [finI, yieldsOf, hrest]
  · refine SatD.skip ?_
    simp only [decide_eq_false_iff_not] at e4
    have hi : tot = [] := by rw [← htot]; simp [inst, e1, e2, e3, e4, yieldsOf]
    simp [hi, finI]
end Go.Proofs
