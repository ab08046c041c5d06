/- Raising the cost of an arc. Conditions: none. -/
import Derived.Test.YtecgedikabjcdaaRa
namespace Go.Proofs
open Go.DM Go.DM.Srt
set_option linter.unusedSimpArgs false
set_option linter.unusedVariables false

def raise (a : Arc) : Arc := ⟨a.f, a.t, a.term, a.cost + 1, a.ops⟩
def raiseAt (arcs : List Arc) (a : Nat) : List Arc := arcs.set a (raise (arcs.getD a default))
/-- Does this hyperedge use the arc? -/
def uses (rules : List Rule) (a : Nat) (e : Edge) : Prop := 0 ≤ e.l0 ∧ e.l0 < rules.length ∧ (rules.getD e.l0.toNat default).kind = 2 ∧ e.l1 = a
instance (rules : List Rule) (a : Nat) (e : Edge) : Decidable (uses rules a e) := by unfold uses; infer_instance
def up (rules : List Rule) (a : Nat) (e : Edge) : Edge := if uses rules a e then ⟨e.head, e.tails, e.cost + 1, e.l0, e.l1⟩ else e
theorem up_head (rules : List Rule) (a : Nat) (e : Edge) : (up rules a e).head = e.head := by unfold up; split <;> rfl

theorem getD_raise (arcs : List Arc) (a i : Nat) (ha : a < arcs.length) : (raiseAt arcs a).getD i default = if i = a then raise (arcs.getD a default) else arcs.getD i default := by
  unfold raiseAt
  simp only [List.getD_eq_getElem?_getD, List.getElem?_set]
  by_cases h : a = i
  · subst h; simp [ha]
  · rw [if_neg h, if_neg (fun e => h e.symm)]
theorem map_flat {g g' : Nat → List Edge} {f : Edge → Edge} {l : List Nat} (h : ∀ i ∈ l, g' i = (g i).map f) : l.flatMap g' = (l.flatMap g).map f := by
  induction l with
  | nil => rfl
  | cons x l ih => rw [List.flatMap_cons, List.flatMap_cons, List.map_append, h x (by simp), ih fun i hi => h i (by simp [hi])]

theorem inst_up {n : Normal} {l : Lattice} (hp : FairP n l) {a : Nat} (ha : a < l.arcs.length) (hc : (l.arcs.getD a default).cost < 1099511625776) {k : Nat} (hk : k < n.rules.length) (s t : Int) :
    inst n.nonterms l.states (n.rules.getD k default) (raiseAt l.arcs a) s t k = (inst n.nonterms l.states (n.rules.getD k default) l.arcs s t k).map (up n.rules a) := by
  obtain ⟨r, hr⟩ : ∃ r, n.rules.getD k default = r := ⟨_, rfl⟩
  obtain ⟨rb, rk⟩ := hp.rules r (by rw [← hr]; simp [hk])
  unfold ruleBad at rb
  have hup : r.kind ≠ 2 → ∀ (c arg : Int) (tl : List Int), up n.rules a (edgeOf n.nonterms l.states r s t k c arg tl) = edgeOf n.nonterms l.states r s t k c arg tl := by
    intro h c arg tl
    unfold up
    rw [if_neg]
    unfold uses edgeOf
    simp only [Int.toNat_natCast, hr]
    exact fun h' => h h'.2.2.1
  rw [hr]
  unfold inst
  by_cases e1 : r.kind = 1
  · rw [if_pos e1, if_pos e1]
    split
    · simp only [List.map_cons, List.map_nil, hup (by omega)]
    · rfl
  rw [if_neg e1, if_neg e1]
  by_cases e2 : r.kind = 2
  · rw [if_pos e2, if_pos e2]
    have hlen : (raiseAt l.arcs a).length = l.arcs.length := by simp [raiseAt]
    rw [hlen]
    refine map_flat fun i hi => ?_
    rw [List.mem_range] at hi
    rw [getD_raise _ _ _ ha]
    have ac := hp.arc (l.arcs.getD i default) (by simp [hi])
    by_cases e : i = a
    · rw [if_pos e]
      rw [← e] at hc ⊢
      clear hup hlen ha e
      generalize l.arcs.getD i default = x at *
      by_cases h : x.f = s ∧ x.t = t ∧ x.term = r.a
      · rw [if_pos (show (raise x).f = s ∧ (raise x).t = t ∧ (raise x).term = r.a from h), if_pos h, show (raise x).cost = x.cost + 1 from rfl]
        simp only [List.map_cons, List.map_nil]
        congr 1
        have hu : uses n.rules i (edgeOf n.nonterms l.states r s t k (r.price + x.cost) i []) := by
          unfold uses edgeOf
          simp only [Int.toNat_natCast, hr]
          exact ⟨by omega, by omega, e2, trivial⟩
        unfold up
        rw [if_pos hu]
        simp only [edgeOf, Inf] at *
        congr 1
        omega
      · rw [if_neg (show ¬ ((raise x).f = s ∧ (raise x).t = t ∧ (raise x).term = r.a) from h), if_neg h]; rfl
    · rw [if_neg e]
      split
      · simp only [List.map_cons, List.map_nil]
        congr 1
        unfold up
        rw [if_neg]
        unfold uses edgeOf
        simp only
        omega
      · rfl
  rw [if_neg e2, if_neg e2]
  by_cases e3 : r.kind = 3
  · simp only [if_pos e3, List.map_cons, List.map_nil, hup e2]
  simp only [if_neg e3]
  split
  · rw [List.map_map]
    refine List.map_congr_left fun j _ => ?_
    simp only [Function.comp, hup e2]
  · rfl
theorem hyper_up {n : Normal} {l : Lattice} (hp : FairP n l) {a : Nat} (ha : a < l.arcs.length) (hc : (l.arcs.getD a default).cost < 1099511625776) :
    hyper n ⟨l.states, raiseAt l.arcs a, l.final⟩ = (hyper n l).map (up n.rules a) := by
  unfold hyper
  rw [List.map_append]
  congr 1
  · unfold allL
    refine map_flat fun s _ => ?_
    unfold rowL
    refine map_flat fun t _ => ?_
    unfold spanE
    rw [← isort_map (lt := ltH) (lt' := ltH) (f := up n.rules a) (fun x y => by simp only [ltH, up_head])]
    congr 1
    unfold spanL
    refine map_flat fun k hk => ?_
    rw [List.mem_range] at hk
    exact inst_up hp ha hc hk s t
  · unfold finL
    refine map_flat fun t _ => ?_
    unfold finE
    split
    · simp only [List.map_cons, List.map_nil]
      congr 1
    · rfl
theorem fit_up {n : Normal} {l : Lattice} (hp : FairP n l) {a : Nat} (ha : a < l.arcs.length) (hc : (l.arcs.getD a default).cost < 1099511625776) : Fit n ⟨l.states, raiseAt l.arcs a, l.final⟩ := by
  have h := hp.fit
  refine ⟨h.sm, h.start, h.rules, h.nrules, ⟨by simp [raiseAt]; exact h.arcs.1, fun x hx => ?_⟩, by simp [raiseAt]; exact h.narcs, h.nfin, h.small⟩
  simp only [raiseAt] at hx
  rcases List.mem_or_eq_of_mem_set hx with hx | rfl
  · exact h.arcs.2 x hx
  · have := h.arcs.2 (l.arcs.getD a default) (by simp [ha])
    simp only [raise, Inf] at *
    omega
end Go.Proofs
namespace Go.Proofs
open Go.DM Go.DM.Srt
set_option linter.unusedSimpArgs false
set_option linter.unusedVariables false

set_option maxRecDepth 20000 in
set_option maxHeartbeats 8000000 in
theorem t8 (n : Normal) (l : Lattice) (kv : Int) (hkv : 0 ≤ kv ∧ kv ≤ 255) (hl : n.rules.length ≤ 9223372036854775807) (hf : l.final.length ≤ 9223372036854775807) (ha : l.arcs.length ≤ 9223372036854775807) : CallsOk Try.prog 8 [n.enc, l.enc, .int .u8 kv] (.bool true) := by
  have hΓ := ok61
  refine c8.ok (by simp) (initSt_sat ?_)
  simp [Normal.enc, Lattice.enc]
  refine SatD.regSeq hΓ follows [2, 3, 4] ?_
  simp [d8r0]
  refine SatD.seq ?_
  refine SatD.regSeq hΓ follows [2, 3, 4, 16] ?_
  simp [d8r1, Γ61]
  refine SatD.cond rfl (fun h => by cases h) (fun _ => ?_)
  refine SatD.skip ?_
  simp
  obtain ⟨tn, htn⟩ : ∃ tn, T.box [ti n.terms, ti n.nonterms, ti n.start, .sl (rulesT n.rules)] = tn := ⟨_, rfl⟩
  obtain ⟨tl, htl⟩ : ∃ tl, T.box [ti l.states, .sl (arcsT l.arcs), .sl (intsT l.final)] = tl := ⟨_, rfl⟩
  refine SatD.le (Le.keep (o := []) (l := [(2, .v (.int .u8 kv)), (3, .v tn), (4, .v tl)]) (nxt' := 2000) ?_ ?_ ?_ ?_) ?_
  · simp
  · simp
  · simp
  · simp [← htn, ← htl]
  refine SatD.seq ?_
  refine SatD.regToS hΓ follows [(2, .v (.int .u8 kv)), (3, .v tn), (4, .v tl), (26, .v (.bool (!(fair n l && decide (l.arcs.length ≠ 0)))))] ?_ ?_
  · simp only [d8r3, ← htn, ← htl]
    simp [Γ61, specP, fnFair]
    refine ⟨⟨n, l, rfl, hl, hf, ha⟩, ?_⟩
    exact ⟨fun h1 h2 => absurd (h1.symm.trans h2) (by simp), fun h1 => .inl h1⟩
  refine SatD.cond rfl (fun h => ?_) (fun h => ?_)
  · refine SatD.regSeq hΓ follows [6] ?_
    simp [d8r4]
    refine SatD.ret ?_
    simp [d8res]
  simp only [Bool.not_eq_false', Bool.and_eq_true, decide_eq_true_eq] at h
  obtain ⟨h, hne⟩ := h
  have hp : FairP n l := fairP h
  clear h
  have hfit := hp.fit
  have hna := hp.na
  refine SatD.skip ?_
  simp
  obtain ⟨a, haa⟩ : ∃ a : Nat, kv.toNat % l.arcs.length = a := ⟨_, rfl⟩
  have halt : a < l.arcs.length := by rw [← haa]; exact Nat.mod_lt _ (by omega)
  have hmod : kv.tmod (l.arcs.length : Int) = (a : Int) := by
    have : kv = ((kv.toNat : Nat) : Int) := by omega
    rw [this, ← haa, Int.ofNat_tmod]
  have hconv : IntKind.i64.wrap kv = kv := wrap_id (by omega)
  refine SatD.regSeq hΓ follows [3, 4, 7] ?_
  simp only [d8r5, ← htl]
  simp [hconv, hmod]
  refine ⟨by simpa using hne, ?_⟩
  refine SatD.regASeq hΓ follows (rs := annot d8r6 [some [], some [], some [], some [], some [], some [], some [], some [], none, none, some [2291, 2321]]) (.inl rfl) (by kernel_rfl) [3, 4, 7, 8] ?_
  simp [d8r6, annot, touchOk, opdsOf, names, namesL]
  refine ⟨⟨?_, by unfold roomOk; omega⟩, ?_⟩
  · intro x hx
    simp only [arcsT, List.mem_map] at hx
    obtain ⟨y, _, rfl⟩ := hx
    rfl
  obtain ⟨x, hgx⟩ : ∃ x, l.arcs.getD a default = x := ⟨_, rfl⟩
  have hrow := rowAt_arcs halt
  rw [hgx] at hrow
  have hxa := hp.arc x (by rw [← hgx]; simp [halt])
  simp only [Inf] at hxa
  rw [htl]
  refine SatD.le (Le.keep (o := [(2291, .box [.v (ti l.states), .aref 2321 0, .v (.sl (intsT l.final))]), (2321, .arr 0 66 5 (arcsT l.arcs))]) (l := [(3, .v tn), (4, .v tl), (7, .v (ti a)), (8, .ptr 2291 0)]) (nxt' := 2500) ?_ ?_ ?_ ?_) ?_
  · simp
  · simp
  · simp
  · simp
  refine SatD.seq ?_
  refine SatD.regSeq hΓ follows [3, 4, 7, 8, 48] ?_
  simp [d8r7, hrow, halt, Arc.enc]
  refine SatD.cond rfl (fun hbig => ?_) (fun hbig => ?_)
  · refine SatD.regSeq hΓ follows [6] ?_
    simp [d8r8]
    refine SatD.ret ?_
    simp [d8res]
  simp at hbig
  refine SatD.skip ?_
  simp
  refine SatD.regSeq hΓ follows [3, 4, 7, 8] ?_
  have hwr : IntKind.i64.wrap (x.cost + 1) = x.cost + 1 := wrap_id (by omega)
  simp [d8r9, hrow, halt, Arc.enc, hwr]
  have hset : (arcsT l.arcs).set a [ti x.f, ti x.t, ti x.term, .int .i64 (x.cost + 1), .sl (opsT x.ops)] = arcsT (raiseAt l.arcs a) := by
    unfold arcsT raiseAt
    rw [List.map_set, hgx]
    rfl
  have hcx : (l.arcs.getD a default).cost < 1099511625776 := by rw [hgx]; exact hbig
  have hfit2 := fit_up hp halt hcx
  have hup := hyper_up hp halt hcx
  obtain ⟨arcs', harcs'⟩ : ∃ arcs', raiseAt l.arcs a = arcs' := ⟨_, rfl⟩
  rw [hset, harcs']
  rw [harcs'] at hfit2 hup
  refine SatD.le (Le.keep (o := [(2291, .box [.v (ti l.states), .v (.sl (arcsT arcs')), .v (.sl (intsT l.final))])]) (l := [(3, .v tn), (4, .v tl), (7, .v (ti a)), (8, .ptr 2291 0)]) (nxt' := 2800) ?_ ?_ ?_ ?_) ?_
  · simp
  · simp
  · simp
  · simp
  refine SatD.le (Le.keep (o := []) (l := [(3, .v tn), (4, .v tl), (7, .v (ti a)), (8, .v (.box [ti l.states, .sl (arcsT arcs'), .sl (intsT l.final)]))]) (nxt' := 2900) ?_ ?_ ?_ ?_) ?_
  · simp
  · simp
  · simp
  · simp
  obtain ⟨es, hes⟩ : ∃ es, hyper n l = es := ⟨_, rfl⟩
  have hes' : hyper ⟨n.terms, n.nonterms, n.start, n.rules⟩ ⟨l.states, l.arcs, l.final⟩ = es := hes
  have hes2 : hyper ⟨n.terms, n.nonterms, n.start, n.rules⟩ ⟨l.states, arcs', l.final⟩ = es.map (up n.rules a) := by rw [← hes]; exact hup
  have hlen := hyper_len hfit
  have hok := hyper_ok hp
  rw [hes] at hlen hok
  refine SatD.regSeq hΓ follows [3, 7, 9, 10] ?_
  simp only [d8r10, ← htn, ← htl]
  simp [Γ61, specP, fn11, hes', hes2]
  rw [htn]
  refine ⟨⟨n, l, rfl, hfit⟩, ⟨n, ⟨l.states, arcs', l.final⟩, rfl, hfit2⟩, ?_⟩
  generalize goalI n.nonterms l.states + 1 = gl
  refine SatD.le (Le.keep (o := []) (l := [(3, .v tn), (7, .v (ti a)), (9, .v (.box [ti gl, .sl (edgesT es)])), (10, .v (.box [ti gl, .sl (edgesT (es.map (up n.rules a)))]))]) (nxt' := 4000) ?_ ?_ ?_ ?_) ?_
  · simp
  · simp
  · simp
  · simp
  refine SatD.seq ?_
  refine SatD.regSeq hΓ follows [3, 7, 9, 10, 70] ?_
  simp [d8r11]
  refine SatD.cond rfl (fun h => by cases h) (fun _ => ?_)
  refine SatD.skip ?_
  simp
  refine SatD.seq ?_
  refine SatD.regSeq hΓ follows [3, 7, 9, 10, 11] ?_
  simp [d8r13]
  refine SatD.block ?_ -- 0
  refine SatD.loop (fun i : Nat => ⟨DM.look [(3, .v tn), (7, .v (ti a)), (9, .v (.box [ti gl, .sl (edgesT es)])), (10, .v (.box [ti gl, .sl (edgesT (es.map (up n.rules a)))])), (11, .v (ti i))], obs [], 5000, 1000, []⟩) (fun i => i ≤ es.length) (fun i => es.length - i) 0 (Le.keep ?_ ?_ ?_ ?_) (by simp) (fun i hi => ?_)
  · simp
  · simp
  · simp
  · simp
  refine SatD.seq ?_
  refine SatD.regSeq hΓ follows [3, 7, 9, 10, 11, 75] ?_
  simp [d8r14]
  refine SatD.cond rfl (fun hc => ?_) (fun hc => ?_)
  · simp at hc
    obtain ⟨e, hge⟩ : ∃ e, es.getD i default = e := ⟨_, rfl⟩
    have r1 := rowAt_edges hc
    have hc2 : i < (es.map (up n.rules a)).length := by simpa using hc
    have r2 := rowAt_edges hc2
    have hge2 : (es.map (up n.rules a)).getD i default = up n.rules a e := by
      rw [← hge]; simp [hc]
    rw [hge] at r1
    rw [hge2] at r2
    have hek := hok e (by rw [← hge]; simp [hc])
    obtain ⟨y, hy⟩ : ∃ y, up n.rules a e = y := ⟨_, rfl⟩
    rw [hy] at r2
    have y1 : y.head = e.head := by rw [← hy]; exact up_head ..
    have y2 : y.l0 = e.l0 := by rw [← hy]; unfold up; split <;> rfl
    have y3 : y.l1 = e.l1 := by rw [← hy]; unfold up; split <;> rfl
    have y4 : y.cost = e.cost + (if uses n.rules a e then 1 else 0) := by rw [← hy]; unfold up; split <;> simp
    have hcost := hek.2.2.1
    have hcost2 := hek.2.2.2.1
    simp only [Inf] at hcost2
    refine SatD.skip ?_
    simp
    refine SatD.seq ?_
    refine SatD.block ?_ -- 1
    refine SatD.regASeq hΓ follows (rs := annot d8r15 [some [], some [], some [], some [], some [], some [], some [], some [], some [], some [], some [], some [], some [5154], some [5155]]) (.inl rfl) (by kernel_rfl) [3, 7, 9, 10, 11, 12, 13] ?_
    simp [d8r15, annot, touchOk, opdsOf, names, namesL, r1, r2, hc, Edge.enc]
    refine SatD.le (Le.keep (o := []) (l := [(3, .v tn), (7, .v (ti a)), (9, .v (.box [ti gl, .sl (edgesT es)])), (10, .v (.box [ti gl, .sl (edgesT (es.map (up n.rules a)))])), (11, .v (ti i)), (12, .v (.box [ti e.head, .sl (intsT e.tails), ti e.cost, ti e.l0, ti e.l1])), (13, .v (.box [ti y.head, .sl (intsT y.tails), ti y.cost, ti y.l0, ti y.l1]))]) (nxt' := 6000) ?_ ?_ ?_ ?_) ?_
    · simp
    · simp
    · simp
    · simp
    refine SatD.regSeq hΓ follows [3, 7, 9, 10, 11, 12, 13, 14] ?_
    simp [d8r16]
    refine SatD.seq ?_
    refine SatD.regToS hΓ follows [(3, .v tn), (7, .v (ti a)), (9, .v (.box [ti gl, .sl (edgesT es)])), (10, .v (.box [ti gl, .sl (edgesT (es.map (up n.rules a)))])), (11, .v (ti i)), (12, .v (.box [ti e.head, .sl (intsT e.tails), ti e.cost, ti e.l0, ti e.l1])), (13, .v (.box [ti y.head, .sl (intsT y.tails), ti y.cost, ti y.l0, ti y.l1])), (14, .v (ti 0)), (118, .v (.bool (decide (uses n.rules a e))))] ?_ ?_
    · by_cases hr : 0 ≤ e.l0 ∧ e.l0 < n.rules.length
      · obtain ⟨k, hk⟩ : ∃ k : Nat, e.l0 = k := ⟨e.l0.toNat, by omega⟩
        have hkl : k < n.rules.length := by omega
        have hrr := rowAt_rules hkl
        obtain ⟨r, hgr⟩ : ∃ r, n.rules.getD k default = r := ⟨_, rfl⟩
        rw [hgr] at hrr
        have hu : uses n.rules a e ↔ r.kind = 2 ∧ e.l1 = a := by
          unfold uses
          rw [hk, Int.toNat_natCast, hgr]
          constructor
          · exact fun h => h.2.2
          · exact fun h => ⟨by omega, by omega, h⟩
        simp only [d8r17, ← htn]
        simp [hk, hkl, hrr, Rule.enc, hu]
        repeat' (first | apply And.intro | intro _)
        all_goals first | omega | (simp [*]; done) | (simp; omega) | trace_state
      · have hu : ¬ uses n.rules a e := fun h => hr ⟨h.1, h.2.1⟩
        simp only [d8r17, ← htn]
        simp [hu]
        repeat' (first | apply And.intro | intro _)
        all_goals first | omega | (simp [*]; done) | (simp; omega) | trace_state
    refine SatD.to ⟨DM.look [(3, .v tn), (7, .v (ti a)), (9, .v (.box [ti gl, .sl (edgesT es)])), (10, .v (.box [ti gl, .sl (edgesT (es.map (up n.rules a)))])), (11, .v (ti i)), (12, .v (.box [ti e.head, .sl (intsT e.tails), ti e.cost, ti e.l0, ti e.l1])), (13, .v (.box [ti y.head, .sl (intsT y.tails), ti y.cost, ti y.l0, ti y.l1])), (14, .v (ti (if uses n.rules a e then 1 else 0)))], obs [], 7000, 1000, []⟩ ?_ ?_
    · refine SatD.cond rfl (fun hu => ?_) (fun hu => ?_)
      · simp only [decide_eq_true_eq] at hu
        refine SatD.reg hΓ follows [3, 7, 9, 10, 11, 12, 13, 14] ?_
        simp [d8r18]
        refine Le.keep ?_ ?_ ?_ ?_
        · simp
        · simp
        · simp
        · simp [hu]
      · simp only [decide_eq_false_iff_not] at hu
        refine SatD.skip ⟨rfl, Le.keep ?_ ?_ ?_ ?_⟩
        · simp
        · simp
        · simp
        · simp [hu]
    simp only [thenQ]
    obtain ⟨d, hd⟩ : ∃ d : Int, (if uses n.rules a e then (1 : Int) else 0) = d := ⟨_, rfl⟩
    rw [hd] at y4 ⊢
    have hd2 : 0 ≤ d ∧ d ≤ 1 := by rw [← hd]; split <;> omega
    refine SatD.regToS hΓ follows [(3, .v tn), (7, .v (ti a)), (9, .v (.box [ti gl, .sl (edgesT es)])), (10, .v (.box [ti gl, .sl (edgesT (es.map (up n.rules a)))])), (11, .v (ti i)), (139, .v (.bool false))] ?_ ?_
    · have hw : IntKind.i64.wrap (e.cost + d) = e.cost + d := wrap_id (by omega)
      simp [d8r19, y1, y2, y3, y4, hw]
    refine SatD.cond rfl (fun h => by cases h) (fun _ => ?_)
    refine SatD.skip ?_
    simp
    refine SatD.reg hΓ follows [3, 7, 9, 10, 11] ?_
    simp [d8r21]
    refine ⟨i + 1, Le.keep ?_ ?_ ?_ ?_, ?_, ?_⟩ -- next round
    · simp
    · simp
    · simp
    · simp
      rw [wrap_id (by omega)]
    · omega
    · omega
  · refine SatD.exit ?_
    simp
    refine SatD.regSeq hΓ follows [6] ?_
    simp [d8r22]
    refine SatD.ret ?_
    simp [d8res]
end Go.Proofs
