import Derived.Test.YtecgedikabjcdaaHa
namespace Go.Proofs
open Go.DM Go.DM.Srt
set_option linter.unusedSimpArgs false
set_option linter.unusedVariables false

def exN : Normal := ⟨1, 1, 0, [⟨2, 0, 0, 0, 1, -1⟩, ⟨4, 0, 0, 0, 0, -1⟩]⟩
def exL : Lattice := ⟨2, [⟨0, 1, 0, 2, []⟩], [1099511627776, 0]⟩
@[simp] theorem chunk_2 (sz : Nat) (cs : List T) : chunk sz 2 cs = [cs.take sz, (cs.drop sz).take sz] := rfl

theorem t29 : CallsOk Try.prog 29 [] (.tup [exN.enc, exL.enc]) := by
  have hΓ : EnvOk Try.prog (envOf []) := EnvOk.nil
  refine c29.ok (by simp) (initSt_sat ?_)
  simp
  refine SatD.regSeq hΓ follows [0, 1] ?_
  simp [d29r0]
  refine SatD.regSeq hΓ follows [0, 1, 2] ?_
  simp [d29r1]
  refine SatD.regSeq hΓ follows [0, 1, 2, 3] ?_
  simp [d29r2]
  refine SatD.regASeq hΓ follows (rs := annot d29r3 [some [1018], some [1034], some [1001], some [1002]]) (.inl rfl) (by kernel_rfl) [0, 1] ?_
  simp [d29r3, annot, touchOk, opdsOf, names, namesL]
  refine SatD.ret ?_
  simp [d29res, exN, exL, Normal.enc, Lattice.enc, rulesT, Rule.enc, arcsT, Arc.enc, intsT, opsT]

def wantE : List Edge := [⟨0, [0, 0], 0, 1, 0⟩, ⟨1, [], 3, 0, 0⟩, ⟨1, [0, 1], 0, 1, 0⟩, ⟨1, [1, 2], 0, 1, 1⟩, ⟨2, [2, 2], 0, 1, 1⟩, ⟨3, [1], 0, -1, 1⟩]
theorem hyper_ex : hyper exN exL = wantE := by decide +kernel
theorem fit_ex : Fit exN exL := by
  refine ⟨⟨by decide, by decide, by decide, by decide⟩, ⟨by decide, by decide⟩, fun r hr => ?_, by decide, ⟨by decide, fun a ha => ?_⟩, by decide, by decide, by decide⟩
  · simp only [exN, List.mem_cons, List.not_mem_nil, or_false] at hr
    rcases hr with rfl | rfl
    · refine ⟨⟨by decide, by decide, by decide, by decide⟩, fun h => ?_, fun h => ?_⟩ <;> exact absurd h (by decide)
    · refine ⟨⟨by decide, by decide, by decide, by decide⟩, fun h => absurd h (by decide), fun h => ⟨by decide, by decide, by decide, by decide⟩⟩
  · simp only [exL, List.mem_cons, List.not_mem_nil, or_false] at ha
    subst ha
    exact ⟨by decide, by decide⟩
end Go.Proofs
namespace Go.Proofs
open Go.DM Go.DM.Srt
set_option linter.unusedSimpArgs false
set_option linter.unusedVariables false

/-- The spans have different numbers. -/
theorem item_inj {nt st h f t h' f' t' : Int} (hi : isItem nt st h f t) (hi' : isItem nt st h' f' t') (e : spanI st f t * nt + h = spanI st f' t' * nt + h') : h = h' ∧ f = f' ∧ t = t' := by
  unfold isItem at hi hi'
  have d1 := divmod (x := spanI st f t) (nt := nt) (h := h) (by omega) (by omega)
  have d2 := divmod (x := spanI st f' t') (nt := nt) (h := h') (by omega) (by omega)
  rw [e] at d1
  have es : spanI st f t = spanI st f' t' := by rw [← d1.1, d2.1]
  have eh : h = h' := by rw [← d1.2, d2.2]
  refine ⟨eh, ?_⟩
  rcases Int.lt_trichotomy f f' with h1 | h1 | h1
  · have := span_lt (st := st) (f := f') (t := t') (s := f) (u := t) (by omega) h1 (by omega) (by omega) (by omega); omega
  · subst h1; unfold spanI at es; omega
  · have := span_lt (st := st) (f := f) (t := t) (s := f') (u := t') (by omega) h1 (by omega) (by omega) (by omega); omega

open Classical in
noncomputable def atT (nt st i : Int) : T :=
  if h : ∃ p : Int × Int × Int, isItem nt st p.1 p.2.1 p.2.2 ∧ i = spanI st p.2.1 p.2.2 * nt + p.1 then .tup [.agg [ti h.choose.1, ti h.choose.2.1, ti h.choose.2.2], .bool true]
  else .tup [.agg [ti 0, ti 0, ti 0], .bool false]
theorem atT_item {nt st h f t i : Int} (hi : isItem nt st h f t) (e : i = spanI st f t * nt + h) : atT nt st i = .tup [.agg [ti h, ti f, ti t], .bool true] := by
  have hx : ∃ p : Int × Int × Int, isItem nt st p.1 p.2.1 p.2.2 ∧ i = spanI st p.2.1 p.2.2 * nt + p.1 := ⟨(h, f, t), hi, e⟩
  unfold atT
  rw [dif_pos hx]
  obtain ⟨k1, k2⟩ := hx.choose_spec
  obtain ⟨e1, e2, e3⟩ := item_inj hi k1 (e.symm.trans k2)
  rw [← e1, ← e2, ← e3]
theorem atT_none {nt st i : Int} (hs : sm nt st) (hi : i < 0 ∨ goalI nt st ≤ i) : atT nt st i = .tup [.agg [ti 0, ti 0, ti 0], .bool false] := by
  unfold atT
  rw [dif_neg]
  rintro ⟨⟨h, f, t⟩, k1, k2⟩
  have := idx_lt hs k1
  simp only at k2 this
  omega
theorem t16 (n : Normal) (l : Lattice) (i : Int) (hs : sm n.nonterms l.states) : CallsOk Try.prog 16 [n.enc, l.enc, ti i] (atT n.nonterms l.states i) := by
  by_cases hi : i < 0 ∨ goalI n.nonterms l.states ≤ i
  · rw [atT_none hs hi]; exact t16b n l i hs hi
  · obtain ⟨h, f, t, k1, k2⟩ := item_of hs (by omega) (show i < goalI n.nonterms l.states by omega)
    rw [atT_item k1 k2, k2]; exact t16a n l h f t hs k1
theorem t19 (n : Normal) (l : Lattice) (i : Int) (hs : sm n.nonterms l.states) : CallsOk Try.prog 19 [n.enc, l.enc, ti i] (atT n.nonterms l.states i) := by
  by_cases hi : i < 0 ∨ goalI n.nonterms l.states ≤ i
  · rw [atT_none hs hi]; exact t19b n l i hs hi
  · obtain ⟨h, f, t, k1, k2⟩ := item_of hs (by omega) (show i < goalI n.nonterms l.states by omega)
    rw [atT_item k1 k2, k2]; exact t19a n l h f t hs k1

def idxT (nt st h f t : Int) : T := if isItem nt st h f t then .tup [ti (idxI nt st h f t), .bool true] else .tup [ti 0, .bool false]
def preNL (ts : List T) : Prop := ∃ (n : Normal) (l : Lattice), ts = [n.enc, l.enc] ∧ sm n.nonterms l.states
def preNLI (ts : List T) : Prop := ∃ (n : Normal) (l : Lattice) (i : Int), ts = [n.enc, l.enc, ti i] ∧ sm n.nonterms l.states
def preNLX (ts : List T) : Prop := ∃ (n : Normal) (l : Lattice) (h f t : Int), ts = [n.enc, l.enc, .agg [ti h, ti f, ti t]] ∧ sm n.nonterms l.states
def fnIdx : List T → T
  | [n, l, .agg [.int _ h, .int _ f, .int _ t]] => idxT (decN n).nonterms (decL l).states h f t
  | _ => .bool false
noncomputable def fnAt : List T → T
  | [n, l, .int _ i] => atT (decN n).nonterms (decL l).states i
  | _ => .bool false
def fnCount : List T → T
  | [n, l] => ti (goalI (decN n).nonterms (decL l).states + 1)
  | _ => .bool false
def pre11 (ts : List T) : Prop := ∃ (n : Normal) (l : Lattice), ts = [n.enc, l.enc] ∧ Fit n l
def fn11 : List T → T
  | [n, l] => .agg [ti (goalI (decN n).nonterms (decL l).states + 1), .sl (edgesT (hyper (decN n) (decL l)))]
  | _ => .bool false
def pre13 (ts : List T) : Prop := ∃ a b : List Edge, ts = [.sl (edgesT a), .sl (edgesT b)] ∧ okEdges a
def fn13 : List T → T
  | [.sl a, .sl b] => .bool (decide (decEdges a = decEdges b))
  | _ => .bool false
noncomputable def Γ9 : Env := envOf [(29, specP (fun ts => ts = []) (fun _ => .tup [exN.enc, exL.enc]) false), (11, specP pre11 fn11 false), (15, specP preNLX fnIdx false), (16, specP preNLI fnAt false), (17, specP preNL fnCount true), (13, specP pre13 fn13 true)]
theorem ok9 : EnvOk Try.prog Γ9 := by
  refine EnvOk.cons (EnvOk.cons (EnvOk.cons (EnvOk.cons (EnvOk.cons (EnvOk.cons EnvOk.nil ?_) ?_) ?_) ?_) ?_) ?_
  · rintro ts ⟨a, b, rfl, h⟩
    exact ⟨by simpa [fn13] using t13 a b h, fun _ => rfl⟩
  · rintro ts ⟨n, l, rfl, h⟩
    exact ⟨by simpa [fnCount] using t17 n l h, fun _ => rfl⟩
  · rintro ts ⟨n, l, i, rfl, h⟩
    exact ⟨by simpa [fnAt] using t16 n l i h, fun h => by cases h⟩
  · rintro ts ⟨n, l, h, f, t, rfl, hs⟩
    exact ⟨by simpa [fnIdx, idxT] using t15 n l h f t hs, fun h => by cases h⟩
  · rintro ts ⟨n, l, rfl, h⟩
    exact ⟨by simpa [fn11] using t11 n l h, fun h => by cases h⟩
  · rintro ts rfl
    exact ⟨t29, fun h => by cases h⟩

theorem atT_ex1 : atT 1 2 1 = .tup [.agg [ti 0, ti 0, ti 1], .bool true] := atT_item (h := 0) (f := 0) (t := 1) (by decide) (by decide)
theorem atT_ex3 : atT 1 2 3 = .tup [.agg [ti 0, ti 0, ti 0], .bool false] := atT_none ⟨by decide, by decide, by decide, by decide⟩ (by decide)
theorem ex_N : T.agg [ti 1, ti 1, ti 0, .sl [[ti 2, ti 0, ti 0, ti 0, ti 1, ti (-1)], [ti 4, ti 0, ti 0, ti 0, ti 0, ti (-1)]]] = exN.enc := rfl
theorem ex_L : T.agg [ti 2, .sl [[ti 0, ti 1, ti 0, ti 2, .sl []]], .sl [[ti 1099511627776], [ti 0]]] = exL.enc := rfl

set_option maxRecDepth 20000 in
set_option maxHeartbeats 4000000 in
theorem t9 : CallsOk Try.prog 9 [] (.bool true) := by
  have hΓ := ok9
  refine c9.ok (by simp) (initSt_sat ?_)
  simp
  refine SatD.regSeq hΓ follows [] ?_
  simp [d9r0]
  refine SatD.regSeq hΓ follows [1, 2] ?_
  simp [d9r1, Γ9, exN, exL, Normal.enc, Lattice.enc, rulesT, Rule.enc, arcsT, Arc.enc, intsT, opsT]
  refine SatD.regSeq hΓ follows [1, 2, 3] ?_
  simp [d9r2]
  refine SatD.le (Le.keep (o := []) (l := [(1, .v (.box [ti 1, ti 1, ti 0, .sl [[ti 2, ti 0, ti 0, ti 0, ti 1, ti (-1)], [ti 4, ti 0, ti 0, ti 0, ti 0, ti (-1)]]])), (2, .v (.box [ti 2, .sl [[ti 0, ti 1, ti 0, ti 2, .sl []]], .sl [[ti 1099511627776], [ti 0]]])), (3, .v (.sl (edgesT wantE)))]) (nxt' := 2000) ?_ ?_ ?_ ?_) ?_
  · simp
  · simp
  · simp
  · simp; rfl
  have h11 : fn11 [exN.enc, exL.enc] = .agg [ti 4, .sl (edgesT wantE)] := by
    simp only [fn11, decN_enc, decL_enc, hyper_ex]; rfl
  have hsm : sm exN.nonterms exL.states := ⟨by decide, by decide, by decide, by decide⟩
  refine SatD.regSeq hΓ follows [1, 2, 3, 4] ?_
  simp [d9r3, Γ9, ex_N, ex_L, h11]
  refine ⟨⟨exN, exL, rfl, fit_ex⟩, ?_⟩
  refine SatD.le (Le.keep (o := []) (l := [(1, .v (.box [ti 1, ti 1, ti 0, .sl [[ti 2, ti 0, ti 0, ti 0, ti 1, ti (-1)], [ti 4, ti 0, ti 0, ti 0, ti 0, ti (-1)]]])), (2, .v (.box [ti 2, .sl [[ti 0, ti 1, ti 0, ti 2, .sl []]], .sl [[ti 1099511627776], [ti 0]]])), (3, .v (.sl (edgesT wantE))), (4, .v (.box [ti 4, .sl (edgesT wantE)]))]) (nxt' := 3000) ?_ ?_ ?_ ?_) ?_
  · simp
  · simp
  · simp
  · simp
  have h15 : fnIdx [exN.enc, exL.enc, .agg [ti 0, ti 1, ti 1]] = .tup [ti 2, .bool true] := by
    simp only [fnIdx, decN_enc, decL_enc]; rfl
  refine SatD.regSeq hΓ follows [1, 2, 3, 4, 5, 6] ?_
  simp [d9r4, Γ9, ex_N, ex_L, h15]
  refine ⟨⟨exN, exL, 0, 1, 1, rfl, hsm⟩, ?_⟩
  have h16 : fnAt [exN.enc, exL.enc, ti 1] = .tup [.agg [ti 0, ti 0, ti 1], .bool true] := by
    simp only [fnAt, decN_enc, decL_enc]; exact atT_ex1
  refine SatD.regSeq hΓ follows [1, 2, 3, 4, 5, 6, 7, 8] ?_
  simp [d9r5, Γ9, ex_N, ex_L, h16]
  refine ⟨⟨exN, exL, 1, rfl, hsm⟩, ?_⟩
  have h16' : fnAt [exN.enc, exL.enc, ti 3] = .tup [.agg [ti 0, ti 0, ti 0], .bool false] := by
    simp only [fnAt, decN_enc, decL_enc]; exact atT_ex3
  refine SatD.regSeq hΓ follows [1, 2, 3, 4, 5, 6, 7, 8, 10] ?_
  simp [d9r6, Γ9, ex_N, ex_L, h16']
  refine ⟨⟨exN, exL, 3, rfl, hsm⟩, ?_⟩
  have h17 : fnCount [exN.enc, exL.enc] = ti 4 := by
    simp only [fnCount, decN_enc, decL_enc]; rfl
  refine SatD.regSeq hΓ follows [0] ?_
  simp [d9r7, Γ9, ex_N, ex_L, h17, fn13]
  refine ⟨⟨exN, exL, rfl, hsm⟩, ⟨wantE, wantE, rfl, by decide, by decide⟩, ?_⟩
  refine SatD.ret ?_
  simp [d9res]
end Go.Proofs
namespace Go.Proofs
open Go.DM Go.DM.Srt
set_option linter.unusedSimpArgs false
set_option linter.unusedVariables false

theorem fair_sm {n : Normal} {l : Lattice} (h : fair n l = true) : sm n.nonterms l.states := by
  simp only [fair, smallN, Bool.and_eq_true, decide_eq_true_eq, validN, validL, Bool.not_eq_true', decide_eq_false_iff_not] at h
  obtain ⟨⟨⟨h1, h2, _⟩, h3, _⟩, ⟨h4, _⟩, _⟩ := h
  unfold headBad at h2
  unfold sm
  omega
theorem idxT_form (nt st h f t : Int) : ∃ (a : Int) (b : Bool), idxT nt st h f t = .tup [ti a, .bool b] := by
  unfold idxT
  split
  · exact ⟨_, _, rfl⟩
  · exact ⟨_, _, rfl⟩
theorem atT_form (nt st i : Int) : ∃ (h f t : Int) (b : Bool), atT nt st i = .tup [.agg [ti h, ti f, ti t], .bool b] := by
  unfold atT
  split
  · exact ⟨_, _, _, _, rfl⟩
  · exact ⟨_, _, _, _, rfl⟩

def preFair (ts : List T) : Prop := ∃ (n : Normal) (l : Lattice), ts = [n.enc, l.enc] ∧ n.rules.length ≤ 9223372036854775807 ∧ l.final.length ≤ 9223372036854775807 ∧ l.arcs.length ≤ 9223372036854775807
def fnFair : List T → T
  | [n, l] => .bool (fair (decN n) (decL l))
  | _ => .bool false
noncomputable def ΓL : Env := envOf [(9, specP (fun ts => ts = []) (fun _ => .bool true) true), (10, specP preFair fnFair true), (15, specP preNLX fnIdx false), (18, specP preNLX fnIdx false), (16, specP preNLI fnAt false), (19, specP preNLI fnAt false), (17, specP preNL fnCount true)]
theorem okL : EnvOk Try.prog ΓL := by
  refine EnvOk.cons (EnvOk.cons (EnvOk.cons (EnvOk.cons (EnvOk.cons (EnvOk.cons (EnvOk.cons EnvOk.nil ?_) ?_) ?_) ?_) ?_) ?_) ?_
  · rintro ts ⟨n, l, rfl, h⟩
    exact ⟨by simpa [fnCount] using t17 n l h, fun _ => rfl⟩
  · rintro ts ⟨n, l, i, rfl, h⟩
    exact ⟨by simpa [fnAt] using t19 n l i h, fun h => by cases h⟩
  · rintro ts ⟨n, l, i, rfl, h⟩
    exact ⟨by simpa [fnAt] using t16 n l i h, fun h => by cases h⟩
  · rintro ts ⟨n, l, h, f, t, rfl, hs⟩
    exact ⟨by simpa [fnIdx, idxT] using t18 n l h f t hs, fun h => by cases h⟩
  · rintro ts ⟨n, l, h, f, t, rfl, hs⟩
    exact ⟨by simpa [fnIdx, idxT] using t15 n l h f t hs, fun h => by cases h⟩
  · rintro ts ⟨n, l, rfl, h1, h2, h3⟩
    exact ⟨by simpa [fnFair] using t10 n l h1 h2 h3, fun _ => rfl⟩
  · rintro ts rfl
    exact ⟨t9, fun _ => rfl⟩

set_option maxRecDepth 20000 in
set_option maxHeartbeats 4000000 in
theorem t5 (n : Normal) (l : Lattice) (xh xf xt : Int) (hl : n.rules.length ≤ 9223372036854775807) (hf : l.final.length ≤ 9223372036854775807) (ha : l.arcs.length ≤ 9223372036854775807) : CallsOk Try.prog 5 [n.enc, l.enc, .agg [ti xh, ti xf, ti xt]] (.bool true) := by
  have hΓ := okL
  refine c5.ok (by simp) (initSt_sat ?_)
  simp [Normal.enc, Lattice.enc]
  refine SatD.regSeq hΓ follows [3, 4, 5] ?_
  simp [d5r0]
  refine SatD.seq ?_
  refine SatD.regSeq hΓ follows [3, 4, 5, 16] ?_
  simp [d5r1, ΓL]
  refine SatD.cond rfl (fun h => by cases h) (fun _ => ?_)
  refine SatD.skip ?_
  simp
  refine SatD.seq ?_
  refine SatD.regSeq hΓ follows [3, 4, 5, 20] ?_
  simp [d5r3, ΓL, specP, fnFair]
  refine ⟨⟨n, l, rfl, hl, hf, ha⟩, ?_⟩
  refine SatD.cond rfl (fun h => ?_) (fun h => ?_)
  · refine SatD.regSeq hΓ follows [6] ?_
    simp [d5r4]
    refine SatD.ret ?_
    simp [d5res]
  simp only [Bool.not_eq_false'] at h
  have hs := fair_sm h
  refine SatD.skip ?_
  simp
  obtain ⟨ia, ib, hi⟩ := idxT_form n.nonterms l.states xh xf xt
  refine SatD.regSeq hΓ follows [3, 4, 5, 7, 8] ?_
  simp [d5r5, ΓL, specP, fnIdx, hi]
  refine ⟨⟨n, l, xh, xf, xt, rfl, hs⟩, ?_⟩
  refine SatD.regSeq hΓ follows [3, 4, 5, 7, 8, 9, 10] ?_
  simp [d5r6, ΓL, specP, fnIdx, hi]
  refine ⟨⟨n, l, xh, xf, xt, rfl, hs⟩, ?_⟩
  obtain ⟨ah, af, at', ab, hat⟩ := atT_form n.nonterms l.states xf
  refine SatD.regSeq hΓ follows [3, 4, 5, 7, 8, 9, 10, 11, 12] ?_
  simp [d5r7, ΓL, specP, fnAt, hat]
  refine ⟨⟨n, l, xf, rfl, hs⟩, ?_⟩
  refine SatD.regSeq hΓ follows [7, 8, 9, 10, 11, 12, 13, 14] ?_
  simp [d5r8, ΓL, specP, fnAt, hat]
  refine ⟨⟨n, l, xf, rfl, hs⟩, ?_⟩
  refine SatD.regSeq hΓ follows [6] ?_
  simp [d5r9]
  refine SatD.ret ?_
  simp [d5res]

set_option maxRecDepth 20000 in
set_option maxHeartbeats 4000000 in
theorem t4 (n : Normal) (l : Lattice) (hl : n.rules.length ≤ 9223372036854775807) (hf : l.final.length ≤ 9223372036854775807) (ha : l.arcs.length ≤ 9223372036854775807) : CallsOk Try.prog 4 [n.enc, l.enc] (.bool true) := by
  have hΓ := okL
  refine c4.ok (by simp) (initSt_sat ?_)
  simp [Normal.enc, Lattice.enc]
  refine SatD.regSeq hΓ follows [2, 3] ?_
  simp [d4r0]
  refine SatD.seq ?_
  refine SatD.regSeq hΓ follows [2, 3, 17] ?_
  simp [d4r1, ΓL]
  refine SatD.cond rfl (fun h => by cases h) (fun _ => ?_)
  refine SatD.skip ?_
  simp
  refine SatD.seq ?_
  refine SatD.regSeq hΓ follows [2, 3, 21] ?_
  simp [d4r3, ΓL, specP, fnFair]
  refine ⟨⟨n, l, rfl, hl, hf, ha⟩, ?_⟩
  refine SatD.cond rfl (fun h => ?_) (fun h => ?_)
  · refine SatD.regSeq hΓ follows [4] ?_
    simp [d4r4]
    refine SatD.ret ?_
    simp [d4res]
  simp only [Bool.not_eq_false'] at h
  have hs := fair_sm h
  simp only at hs
  clear h
  have hs' := hs
  obtain ⟨n1, n2, s1, s2⟩ := hs'
  have hgb := goal_bound hs
  have hS : (l.states.toNat : Int) = l.states := by omega
  have hNT : (n.nonterms.toNat : Int) = n.nonterms := by omega
  obtain ⟨nt, hnt⟩ : ∃ nt, n.nonterms = nt := ⟨_, rfl⟩
  obtain ⟨st, hst⟩ : ∃ st, l.states = st := ⟨_, rfl⟩
  have hgoal := goal_eq (nt := nt) (st := st) (by omega)
  have hN : n.enc = .agg [ti n.terms, ti nt, ti n.start, .sl (rulesT n.rules)] := by rw [← hnt]; rfl
  have hL : l.enc = .agg [ti st, .sl (arcsT l.arcs), .sl (intsT l.final)] := by rw [← hst]; rfl
  have hs0 := hs
  simp only [hnt, hst] at hs n1 n2 s1 s2 hgb hS hNT ⊢
  refine SatD.skip ?_
  simp
  refine SatD.le (Le.keep (o := []) (l := [(2, .v (.box [ti n.terms, ti nt, ti n.start, .sl (rulesT n.rules)])), (3, .v (.box [ti st, .sl (arcsT l.arcs), .sl (intsT l.final)]))]) (nxt' := 2000) ?_ ?_ ?_ ?_) ?_
  · simp
  · simp
  · simp
  · simp
  refine SatD.regSeq hΓ follows [2, 3, 5] ?_
  simp [d4r5]
  refine SatD.seq ?_
  refine SatD.regSeq hΓ follows [2, 3, 5, 6] ?_
  simp [d4r6]
  refine SatD.block ?_ -- 0
  refine SatD.loop (fun s : Nat => ⟨DM.look [(2, .v (.box [ti n.terms, ti nt, ti n.start, .sl (rulesT n.rules)])), (3, .v (.box [ti st, .sl (arcsT l.arcs), .sl (intsT l.final)])), (5, .v (ti (pre st s * nt))), (6, .v (ti s))], obs [], 3000, 1000, []⟩)
    (fun s => (s : Int) ≤ st) (fun s => st.toNat - s) 0 (Le.keep ?_ ?_ ?_ ?_) (by simp; omega) (fun s hs1 => ?_)
  · simp
  · simp
  · simp
  · simp [pre]
  refine SatD.seq ?_
  refine SatD.regSeq hΓ follows [2, 3, 5, 6, 25] ?_
  simp [d4r7]
  refine SatD.cond rfl (fun hc => ?_) (fun hc => ?_)
  · simp at hc
    refine SatD.skip ?_
    simp
    refine SatD.seq ?_
    refine SatD.block ?_ -- 1
    refine SatD.regSeq hΓ follows [2, 3, 5, 6, 7] ?_
    simp [d4r8]
    refine SatD.block ?_ -- 2
    refine SatD.loop (fun t : Nat => ⟨DM.look [(2, .v (.box [ti n.terms, ti nt, ti n.start, .sl (rulesT n.rules)])), (3, .v (.box [ti st, .sl (arcsT l.arcs), .sl (intsT l.final)])), (5, .v (ti (spanI st s t * nt))), (6, .v (ti s)), (7, .v (ti t))], obs [], 4000, 1000, []⟩)
      (fun t => s ≤ t ∧ (t : Int) ≤ st) (fun t => st.toNat - t) s (Le.keep ?_ ?_ ?_ ?_) ⟨Nat.le_refl _, hs1⟩ (fun t ht => ?_)
    · simp
    · simp
    · simp
    · have : spanI st s s = pre st s := by simp [spanI]
      simp [this]
    obtain ⟨ht1, ht2⟩ := ht
    refine SatD.seq ?_
    refine SatD.regSeq hΓ follows [2, 3, 5, 6, 7, 32] ?_
    simp [d4r9]
    refine SatD.cond rfl (fun hd => ?_) (fun hd => ?_)
    · simp at hd
      refine SatD.skip ?_
      simp
      refine SatD.seq ?_
      refine SatD.block ?_ -- 3
      refine SatD.regSeq hΓ follows [2, 3, 5, 6, 7, 8] ?_
      simp [d4r10]
      refine SatD.block ?_ -- 4
      refine SatD.loop (fun h : Nat => ⟨DM.look [(2, .v (.box [ti n.terms, ti nt, ti n.start, .sl (rulesT n.rules)])), (3, .v (.box [ti st, .sl (arcsT l.arcs), .sl (intsT l.final)])), (5, .v (ti (spanI st s t * nt + h))), (6, .v (ti s)), (7, .v (ti t)), (8, .v (ti h))], obs [], 5000, 1000, []⟩)
        (fun h => (h : Int) ≤ nt) (fun h => nt.toNat - h) 0 (Le.keep ?_ ?_ ?_ ?_) (by simp; omega) (fun h hh => ?_)
      · simp
      · simp
      · simp
      · simp
      refine SatD.seq ?_
      refine SatD.regSeq hΓ follows [2, 3, 5, 6, 7, 8, 38] ?_
      simp [d4r11]
      refine SatD.cond rfl (fun he => ?_) (fun he => ?_)
      · simp at he
        have hit : isItem nt st h s t := by unfold isItem; omega
        have hlt := idx_lt hs hit
        have hidx : idxT nt st h s t = .tup [ti (spanI st s t * nt + h), .bool true] := by unfold idxT; rw [if_pos hit, idx_eq (by omega)]
        have hat := atT_item hit rfl
        obtain ⟨k, hk⟩ : ∃ k, spanI st s t * nt + h = k := ⟨_, rfl⟩
        rw [hk] at hlt hidx hat ⊢
        refine SatD.skip ?_
        simp
        refine SatD.seq ?_
        refine SatD.block ?_ -- 5
        refine SatD.regSeq hΓ follows [2, 3, 5, 6, 7, 8, 9] ?_
        simp [d4r12]
        refine SatD.regSeq hΓ follows [2, 3, 5, 6, 7, 8, 9, 10, 11] ?_
        simp [d4r13, ΓL, specP, fnIdx, hidx]
        refine ⟨⟨n, l, h, s, t, by rw [hN, hL], hs0⟩, ?_⟩
        refine SatD.regSeq hΓ follows [2, 3, 5, 6, 7, 8, 9, 10, 11, 12, 13] ?_
        simp [d4r14, ΓL, specP, fnAt, hat]
        refine ⟨⟨n, l, k, by rw [hN, hL], hs0⟩, ?_⟩
        refine SatD.seq ?_
        refine SatD.regSeq hΓ follows [2, 3, 5, 6, 7, 8, 74] ?_
        simp [d4r15]
        refine SatD.cond rfl (fun h => by cases h) (fun _ => ?_)
        refine SatD.skip ?_
        simp
        refine SatD.reg hΓ follows [2, 3, 5, 6, 7, 8] ?_
        simp [d4r17]
        refine SatD.reg hΓ follows [2, 3, 5, 6, 7, 8] ?_
        simp [d4r18]
        refine ⟨h + 1, Le.keep ?_ ?_ ?_ ?_, ?_, ?_⟩ -- next round
        · simp
        · simp
        · simp
        · simp
          rw [wrap_id (by omega), wrap_id (by omega)]
          omega
        · omega
        · omega
      · simp at he
        have hh2 : (h : Int) = nt := by omega
        refine SatD.exit ?_
        simp
        refine SatD.reg hΓ follows [2, 3, 5, 6, 7] ?_
        simp [d4r19]
        refine ⟨t + 1, Le.keep ?_ ?_ ?_ ?_, ⟨?_, ?_⟩, ?_⟩ -- next round
        · simp
        · simp
        · simp
        · have e1 : spanI st s ((t : Int) + 1) * nt = spanI st s t * nt + nt := by
            have : spanI st s ((t : Int) + 1) = spanI st s t + 1 := by unfold spanI; omega
            rw [this, Int.add_mul, Int.one_mul]
          simp [e1, hh2]
          rw [wrap_id (by omega)]
        · omega
        · omega
        · omega
    · simp at hd
      have ht3 : (t : Int) = st := by omega
      refine SatD.exit ?_
      simp
      refine SatD.reg hΓ follows [2, 3, 5, 6] ?_
      simp [d4r20]
      refine ⟨s + 1, Le.keep ?_ ?_ ?_ ?_, ?_, ?_⟩ -- next round
      · simp
      · simp
      · simp
      · have e1 : spanI st s st = pre st (s + 1) := by simp [spanI, pre]
        simp [ht3, e1]
        rw [wrap_id (by omega)]
      · omega
      · omega
  · simp at hc
    have hs3 : s = st.toNat := by omega
    refine SatD.exit ?_
    simp
    rw [hs3, ← hgoal]
    have hat := atT_none (nt := nt) (st := st) (i := goalI nt st) hs (.inr (by omega))
    refine SatD.regSeq hΓ follows [2, 3, 5, 14, 15] ?_
    simp [d4r21, ΓL, specP, fnAt, hat]
    refine ⟨⟨n, l, goalI nt st, by rw [hN, hL], hs0⟩, ?_⟩
    refine SatD.regSeq hΓ follows [4] ?_
    simp [d4r22, ΓL, specP, fnCount]
    refine ⟨⟨n, l, by rw [hN, hL], hs0⟩, fun _ => ?_, fun h => absurd (wrap_id (by omega)).symm h⟩
    refine SatD.ret ?_
    simp [d4res]
end Go.Proofs
