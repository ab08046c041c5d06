import Derived.Test.YtecgedikabjcdaaA1
namespace Go.Proofs
open Go.DM Go.DM.Srt
set_option linter.unusedSimpArgs false
set_option linter.unusedVariables false

/-- The spans have different numbers. -/
theorem item_inj {nt st h f t h' f' t' : Int} (hi : isItem nt st h f t) (hi' : isItem nt st h' f' t') (e : spanI st f t * nt + h = spanI st f' t' * nt + h') : h = h' ∧ f = f' ∧ t = t' := by
  unfold isItem at hi hi'
  have d1 := divmod (x := spanI st f t) (nt := nt) (h := h) (by omega) (by omega)
  have d2 := divmod (x := spanI st f' t') (nt := nt) (h := h') (by omega) (by omega)
  rw [e] at d1
  have es : spanI st f t = spanI st f' t' := by rw [← d1.1, d2.1]
  have eh : h = h' := by rw [← d1.2, d2.2]
  refine ⟨eh, ?_⟩
  rcases Int.lt_trichotomy f f' with h1 | h1 | h1
  · have := span_lt (st := st) (f := f') (t := t') (s := f) (u := t) (by omega) h1 (by omega) (by omega) (by omega); omega
  · subst h1; unfold spanI at es; omega
  · have := span_lt (st := st) (f := f) (t := t) (s := f') (u := t') (by omega) h1 (by omega) (by omega) (by omega); omega

open Classical in
noncomputable def atT (nt st i : Int) : T :=
  if h : ∃ p : Int × Int × Int, isItem nt st p.1 p.2.1 p.2.2 ∧ i = spanI st p.2.1 p.2.2 * nt + p.1 then .tup [.agg [ti h.choose.1, ti h.choose.2.1, ti h.choose.2.2], .bool true]
  else .tup [.agg [ti 0, ti 0, ti 0], .bool false]
theorem atT_item {nt st h f t i : Int} (hi : isItem nt st h f t) (e : i = spanI st f t * nt + h) : atT nt st i = .tup [.agg [ti h, ti f, ti t], .bool true] := by
  have hx : ∃ p : Int × Int × Int, isItem nt st p.1 p.2.1 p.2.2 ∧ i = spanI st p.2.1 p.2.2 * nt + p.1 := ⟨(h, f, t), hi, e⟩
  unfold atT
  rw [dif_pos hx]
  obtain ⟨k1, k2⟩ := hx.choose_spec
  obtain ⟨e1, e2, e3⟩ := item_inj hi k1 (e.symm.trans k2)
  rw [← e1, ← e2, ← e3]
theorem atT_none {nt st i : Int} (hs : sm nt st) (hi : i < 0 ∨ goalI nt st ≤ i) : atT nt st i = .tup [.agg [ti 0, ti 0, ti 0], .bool false] := by
  unfold atT
  rw [dif_neg]
  rintro ⟨⟨h, f, t⟩, k1, k2⟩
  have := idx_lt hs k1
  simp only at k2 this
  omega
theorem t16 (n : Normal) (l : Lattice) (i : Int) (hs : sm n.nonterms l.states) : CallsOk Try.prog 16 [n.enc, l.enc, ti i] (atT n.nonterms l.states i) := by
  by_cases hi : i < 0 ∨ goalI n.nonterms l.states ≤ i
  · rw [atT_none hs hi]; exact t16b n l i hs hi
  · obtain ⟨h, f, t, k1, k2⟩ := item_of hs (by omega) (show i < goalI n.nonterms l.states by omega)
    rw [atT_item k1 k2, k2]; exact t16a n l h f t hs k1
theorem t19 (n : Normal) (l : Lattice) (i : Int) (hs : sm n.nonterms l.states) : CallsOk Try.prog 19 [n.enc, l.enc, ti i] (atT n.nonterms l.states i) := by
  by_cases hi : i < 0 ∨ goalI n.nonterms l.states ≤ i
  · rw [atT_none hs hi]; exact t19b n l i hs hi
  · obtain ⟨h, f, t, k1, k2⟩ := item_of hs (by omega) (show i < goalI n.nonterms l.states by omega)
    rw [atT_item k1 k2, k2]; exact t19a n l h f t hs k1

def idxT (nt st h f t : Int) : T := if isItem nt st h f t then .tup [ti (idxI nt st h f t), .bool true] else .tup [ti 0, .bool false]
def preNL (ts : List T) : Prop := ∃ (n : Normal) (l : Lattice), ts = [n.enc, l.enc] ∧ sm n.nonterms l.states
def preNLI (ts : List T) : Prop := ∃ (n : Normal) (l : Lattice) (i : Int), ts = [n.enc, l.enc, ti i] ∧ sm n.nonterms l.states
def preNLX (ts : List T) : Prop := ∃ (n : Normal) (l : Lattice) (h f t : Int), ts = [n.enc, l.enc, .agg [ti h, ti f, ti t]] ∧ sm n.nonterms l.states
def fnIdx : List T → T
  | [n, l, .agg [.int _ h, .int _ f, .int _ t]] => idxT (decN n).nonterms (decL l).states h f t
  | _ => .bool false
noncomputable def fnAt : List T → T
  | [n, l, .int _ i] => atT (decN n).nonterms (decL l).states i
  | _ => .bool false
def fnCount : List T → T
  | [n, l] => ti (goalI (decN n).nonterms (decL l).states + 1)
  | _ => .bool false
def pre11 (ts : List T) : Prop := ∃ (n : Normal) (l : Lattice), ts = [n.enc, l.enc] ∧ Fit n l
def fn11 : List T → T
  | [n, l] => .agg [ti (goalI (decN n).nonterms (decL l).states + 1), .sl (edgesT (hyper (decN n) (decL l)))]
  | _ => .bool false
def pre13 (ts : List T) : Prop := ∃ a b : List Edge, ts = [.sl (edgesT a), .sl (edgesT b)] ∧ okEdges a
def fn13 : List T → T
  | [.sl a, .sl b] => .bool (decide (decEdges a = decEdges b))
  | _ => .bool false
noncomputable def Γ9 : Env := envOf [(29, specP (fun ts => ts = []) (fun _ => .tup [exN.enc, exL.enc]) false), (11, specP pre11 fn11 false), (15, specP preNLX fnIdx false), (16, specP preNLI fnAt false), (17, specP preNL fnCount true), (13, specP pre13 fn13 true)]
theorem ok9 : EnvOk Try.prog Γ9 := by
  refine EnvOk.cons (EnvOk.cons (EnvOk.cons (EnvOk.cons (EnvOk.cons (EnvOk.cons EnvOk.nil ?_) ?_) ?_) ?_) ?_) ?_
  · rintro ts ⟨a, b, rfl, h⟩
    exact ⟨by simpa [fn13] using t13 a b h, fun _ => rfl⟩
  · rintro ts ⟨n, l, rfl, h⟩
    exact ⟨by simpa [fnCount] using t17 n l h, fun _ => rfl⟩
  · rintro ts ⟨n, l, i, rfl, h⟩
    exact ⟨by simpa [fnAt] using t16 n l i h, fun h => by cases h⟩
  · rintro ts ⟨n, l, h, f, t, rfl, hs⟩
    exact ⟨by simpa [fnIdx, idxT] using t15 n l h f t hs, fun h => by cases h⟩
  · rintro ts ⟨n, l, rfl, h⟩
    exact ⟨by simpa [fn11] using t11 n l h, fun h => by cases h⟩
  · rintro ts rfl
    exact ⟨t29, fun h => by cases h⟩

theorem atT_ex1 : atT 1 2 1 = .tup [.agg [ti 0, ti 0, ti 1], .bool true] := atT_item (h := 0) (f := 0) (t := 1) (by decide) (by decide)
theorem atT_ex3 : atT 1 2 3 = .tup [.agg [ti 0, ti 0, ti 0], .bool false] := atT_none ⟨by decide, by decide, by decide, by decide⟩ (by decide)
theorem ex_N : T.agg [ti 1, ti 1, ti 0, .sl [[ti 2, ti 0, ti 0, ti 0, ti 1, ti (-1)], [ti 4, ti 0, ti 0, ti 0, ti 0, ti (-1)]]] = exN.enc := rfl
theorem ex_L : T.agg [ti 2, .sl [[ti 0, ti 1, ti 0, ti 2, .sl []]], .sl [[ti 1099511627776], [ti 0]]] = exL.enc := rfl

set_option maxRecDepth 20000 in
set_option maxHeartbeats 4000000 in
theorem t9 : CallsOk Try.prog 9 [] (.bool true) := by
  have hΓ := ok9
  refine c9.ok (by simp) (initSt_sat ?_)
  simp
  refine SatD.regSeq hΓ follows [] ?_
  simp [d9r0]
  refine SatD.regSeq hΓ follows [1, 2] ?_
  simp [d9r1, Γ9, exN, exL, Normal.enc, Lattice.enc, rulesT, Rule.enc, arcsT, Arc.enc, intsT, opsT]
  refine SatD.regSeq hΓ follows [1, 2, 3] ?_
  simp [d9r2]
  refine SatD.le (Le.keep (o := []) (l := [(1, .v (.box [ti 1, ti 1, ti 0, .sl [[ti 2, ti 0, ti 0, ti 0, ti 1, ti (-1)], [ti 4, ti 0, ti 0, ti 0, ti 0, ti (-1)]]])), (2, .v (.box [ti 2, .sl [[ti 0, ti 1, ti 0, ti 2, .sl []]], .sl [[ti 1099511627776], [ti 0]]])), (3, .v (.sl (edgesT wantE)))]) (nxt' := 2000) ?_ ?_ ?_ ?_) ?_
  · simp
  · simp
  · simp
  · simp; rfl
  have h11 : fn11 [exN.enc, exL.enc] = .agg [ti 4, .sl (edgesT wantE)] := by
    simp only [fn11, decN_enc, decL_enc, hyper_ex]; rfl
  have hsm : sm exN.nonterms exL.states := ⟨by decide, by decide, by decide, by decide⟩
  refine SatD.regSeq hΓ follows [1, 2, 3, 4] ?_
  simp [d9r3, Γ9, ex_N, ex_L, h11]
  refine ⟨⟨exN, exL, rfl, fit_ex⟩, ?_⟩
  refine SatD.le (Le.keep (o := []) (l := [(1, .v (.box [ti 1, ti 1, ti 0, .sl [[ti 2, ti 0, ti 0, ti 0, ti 1, ti (-1)], [ti 4, ti 0, ti 0, ti 0, ti 0, ti (-1)]]])), (2, .v (.box [ti 2, .sl [[ti 0, ti 1, ti 0, ti 2, .sl []]], .sl [[ti 1099511627776], [ti 0]]])), (3, .v (.sl (edgesT wantE))), (4, .v (.box [ti 4, .sl (edgesT wantE)]))]) (nxt' := 3000) ?_ ?_ ?_ ?_) ?_
  · simp
  · simp
  · simp
  · simp
  have h15 : fnIdx [exN.enc, exL.enc, .agg [ti 0, ti 1, ti 1]] = .tup [ti 2, .bool true] := by
    simp only [fnIdx, decN_enc, decL_enc]; rfl
  refine SatD.regSeq hΓ follows [1, 2, 3, 4, 5, 6] ?_
  simp [d9r4, Γ9, ex_N, ex_L, h15]
  refine ⟨⟨exN, exL, 0, 1, 1, rfl, hsm⟩, ?_⟩
  have h16 : fnAt [exN.enc, exL.enc, ti 1] = .tup [.agg [ti 0, ti 0, ti 1], .bool true] := by
    simp only [fnAt, decN_enc, decL_enc]; exact atT_ex1
  refine SatD.regSeq hΓ follows [1, 2, 3, 4, 5, 6, 7, 8] ?_
  simp [d9r5, Γ9, ex_N, ex_L, h16]
  refine ⟨⟨exN, exL, 1, rfl, hsm⟩, ?_⟩
  have h16' : fnAt [exN.enc, exL.enc, ti 3] = .tup [.agg [ti 0, ti 0, ti 0], .bool false] := by
    simp only [fnAt, decN_enc, decL_enc]; exact atT_ex3
  refine SatD.regSeq hΓ follows [1, 2, 3, 4, 5, 6, 7, 8, 10] ?_
  simp [d9r6, Γ9, ex_N, ex_L, h16']
  refine ⟨⟨exN, exL, 3, rfl, hsm⟩, ?_⟩
  have h17 : fnCount [exN.enc, exL.enc] = ti 4 := by
    simp only [fnCount, decN_enc, decL_enc]; rfl
  refine SatD.regSeq hΓ follows [0] ?_
  simp [d9r7, Γ9, ex_N, ex_L, h17, fn13]
  refine ⟨⟨exN, exL, rfl, hsm⟩, ⟨wantE, wantE, rfl, by decide, by decide⟩, ?_⟩
  refine SatD.ret ?_
  simp [d9res]
end Go.Proofs
