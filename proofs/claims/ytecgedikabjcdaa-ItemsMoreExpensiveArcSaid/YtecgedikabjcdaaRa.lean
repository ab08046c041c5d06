/- The reference's list of a span's hyperedges is the sorted list. Conditions: none. -/
import Derived.Test.YtecgedikabjcdaaQa
namespace Go.Proofs
open Go.DM Go.DM.Srt
set_option linter.unusedSimpArgs false
set_option linter.unusedVariables false

/-- The hyperedges of an item, as the reference lists them. -/
def edgesK (nt st : Int) (rules : List Rule) (arcs : List Arc) (h s t : Int) (k : Nat) : List Edge :=
  (List.range k).flatMap fun k => if (rules.getD k default).head = h then inst nt st (rules.getD k default) arcs s t k else []
theorem edgesK_succ (nt st : Int) (rules : List Rule) (arcs : List Arc) (h s t : Int) (k : Nat) : edgesK nt st rules arcs h s t (k + 1) = edgesK nt st rules arcs h s t k ++ if (rules.getD k default).head = h then inst nt st (rules.getD k default) arcs s t k else [] := by
  simp [edgesK, List.range_succ]
theorem edgesK_len {n : Normal} {l : Lattice} (h : Fit n l) {hd s t : Int} (hf : okF s t) (k : Nat) (hk : k ≤ n.rules.length) : (edgesK n.nonterms l.states n.rules l.arcs hd s t k).length ≤ 10000000 := by
  have := flat_length (fun k => if (n.rules.getD k default).head = hd then inst n.nonterms l.states (n.rules.getD k default) l.arcs s t k else []) 10000 (List.range k) fun i _ => by
    split
    · exact inst_length _ _ _ _ _ _ _ h.narcs hf
    · simp
  have hn := h.nrules
  simp only [List.length_range] at this
  unfold edgesK
  omega

noncomputable def Γ38 : Env := envOf [(18, specP preNLX fnIdx false)]
theorem ok38 : EnvOk Try.prog Γ38 := by
  refine EnvOk.cons EnvOk.nil ?_
  rintro ts ⟨n, l, h, f, t, rfl, hs⟩
  exact ⟨by simpa [fnIdx, idxT] using t18 n l h f t hs, fun h => by cases h⟩
theorem inst2_succ (nt st : Int) (r : Rule) (arcs : List Arc) (f t k : Int) (i : Nat) : (List.range (i + 1)).flatMap (termAt nt st r arcs f t k) = (List.range i).flatMap (termAt nt st r arcs f t k) ++ termAt nt st r arcs f t k i := by
  simp [List.range_succ]
theorem bin_succ (nt st : Int) (r : Rule) (f t k : Int) (i : Nat) : (List.range (i + 1)).map (binAt nt st r f t k) = (List.range i).map (binAt nt st r f t k) ++ [binAt nt st r f t k i] := by
  simp [List.range_succ]

structure TermSt where
  i : Nat
  (c a b : Int)
structure BinSt where
  i : Nat
  tl : List (List T)
  (a b : Int)

set_option maxRecDepth 20000 in
set_option maxHeartbeats 8000000 in
theorem t38 (n : Normal) (l : Lattice) (hp : FairP n l) (h s t : Int) (hi : isItem n.nonterms l.states h s t) : CallsOk Try.prog 38 [n.enc, l.enc, .agg [ti h, ti s, ti t]] (.sl (edgesT (edgesK n.nonterms l.states n.rules l.arcs h s t n.rules.length))) := by
  have hΓ := ok38
  have hfit := hp.fit
  have hsm := hfit.sm
  have hidx : idxT n.nonterms l.states h s t = .tup [ti (idxI n.nonterms l.states h s t), .bool true] := by unfold idxT; rw [if_pos hi]
  have hi' := hi
  unfold isItem at hi'
  have hst := hp.st
  have hok : okF s t := ⟨by omega, by omega, by omega⟩
  refine c38.ok (by simp) (initSt_sat ?_)
  simp [Normal.enc, Lattice.enc]
  refine SatD.regSeq hΓ follows [3, 4, 5] ?_
  simp [d38r0]
  refine SatD.regSeq hΓ follows [3, 4, 5, 7] ?_
  simp [d38r1]
  obtain ⟨tn, htn⟩ : ∃ tn, T.box [ti n.terms, ti n.nonterms, ti n.start, .sl (rulesT n.rules)] = tn := ⟨_, rfl⟩
  obtain ⟨tl, htl⟩ : ∃ tl, T.box [ti l.states, .sl (arcsT l.arcs), .sl (intsT l.final)] = tl := ⟨_, rfl⟩
  refine SatD.le (Le.keep (o := []) (l := [(3, .v tn), (4, .v tl), (5, .v (.box [ti h, ti s, ti t])), (7, .nil0)]) (nxt' := 2000) ?_ ?_ ?_ ?_) ?_
  · simp
  · simp
  · simp
  · simp [← htn, ← htl]
  refine SatD.le (Le.nilSlot (k := 7) 47 (sz := 5) (by omega) (by simp)) ?_
  simp only [setO_obs]
  refine SatD.le (Le.keep (o := [(2000, .arr 0 47 5 [])]) (l := [(3, .v tn), (4, .v tl), (5, .v (.box [ti h, ti s, ti t])), (7, .aref 2000 0)]) (nxt' := 2500) ?_ ?_ ?_ ?_) ?_
  · simp
  · simp
  · simp
  · simp
  have hcall : ∀ a f u : Int, preNLX [.agg [ti n.terms, ti n.nonterms, ti n.start, .sl (rulesT n.rules)], .agg [ti l.states, .sl (arcsT l.arcs), .sl (intsT l.final)], .agg [ti a, ti f, ti u]] := fun a f u => ⟨n, l, a, f, u, rfl, hsm⟩
  refine SatD.regSeq hΓ follows [3, 4, 5, 7, 8] ?_
  simp only [d38r2, ← htn, ← htl]
  simp [Γ38, specP, fnIdx, hidx]
  refine ⟨hcall _ _ _, ?_⟩
  rw [htn, htl]
  obtain ⟨hd, hhd⟩ : ∃ hd, idxI n.nonterms l.states h s t = hd := ⟨_, rfl⟩
  rw [hhd]
  refine SatD.seq ?_
  refine SatD.regSeq hΓ follows [3, 4, 5, 7, 8, 10] ?_
  simp [d38r3]
  refine SatD.block ?_ -- 0
  refine SatD.loop (fun k : Nat => ⟨DM.look [(3, .v tn), (4, .v tl), (5, .v (.box [ti h, ti s, ti t])), (7, .aref 2000 0), (8, .v (ti hd)), (10, .v (ti k))], obs [(2000, .arr 0 47 5 (edgesT (edgesK n.nonterms l.states n.rules l.arcs h s t k)))], 3000, 1000, []⟩)
    (fun k => k ≤ n.rules.length) (fun k => n.rules.length - k) 0 (Le.keep ?_ ?_ ?_ ?_) (by simp) (fun k hk => ?_)
  · simp
  · simp
  · simp [edgesK, edgesT]
  · simp
  have hnr := hp.nr
  refine SatD.seq ?_
  refine SatD.regSeq hΓ follows [3, 4, 5, 7, 8, 10, 33] ?_
  simp only [d38r4, ← htn]
  simp
  refine SatD.cond rfl (fun hc => ?_) (fun hc => ?_)
  · simp at hc
    obtain ⟨r, hr⟩ : ∃ r, n.rules.getD k default = r := ⟨_, rfl⟩
    have hrow := rowAt_rules hc
    rw [hr] at hrow
    have hrm : r ∈ n.rules := by rw [← hr]; simp [hc]
    obtain ⟨rb, rk⟩ := hp.rules r hrm
    unfold ruleBad at rb
    unfold bodyOk at rk
    obtain ⟨es, hes⟩ : ∃ es, edgesK n.nonterms l.states n.rules l.arcs h s t k = es := ⟨_, rfl⟩
    have les : es.length ≤ 10000000 := by rw [← hes]; exact edgesK_len hfit hok k hk
    obtain ⟨new, hnew⟩ : ∃ new, (if r.head = h then inst n.nonterms l.states r l.arcs s t k else []) = new := ⟨_, rfl⟩
    have hsucc : edgesK n.nonterms l.states n.rules l.arcs h s t (k + 1) = es ++ new := by rw [edgesK_succ, hes, hr, hnew]
    rw [hes]
    refine SatD.skip ?_
    simp
    refine SatD.seq ?_
    refine SatD.to ⟨DM.look [(3, .v tn), (4, .v tl), (5, .v (.box [ti h, ti s, ti t])), (7, .aref 2000 0), (8, .v (ti hd)), (10, .v (ti k))], obs [(2000, .arr 0 47 5 (edgesT (es ++ new)))], 20000, 1000, []⟩ ?_ ?_
    · refine SatD.block ?_ -- 1
      refine SatD.regSeq hΓ follows [3, 4, 5, 7, 8, 10, 11] ?_
      simp only [d38r5, ← htn]
      simp [hrow, hc, Rule.enc]
      rw [htn]
      refine SatD.le (Le.keep (o := [(2000, .arr 0 47 5 (edgesT es))]) (l := [(3, .v tn), (4, .v tl), (5, .v (.box [ti h, ti s, ti t])), (7, .aref 2000 0), (8, .v (ti hd)), (10, .v (ti k)), (11, .v (.box [ti r.kind, ti r.head, ti r.a, ti r.b, ti r.price, ti r.origin]))]) (nxt' := 4000) ?_ ?_ ?_ ?_) ?_
      · simp
      · simp
      · simp
      · simp
      refine SatD.seq ?_
      refine SatD.regSeq hΓ follows [3, 4, 5, 7, 8, 10, 11, 45] ?_
      simp [d38r6]
      refine SatD.cond rfl (fun e => ?_) (fun e => ?_)
      · simp at e
        rw [if_neg e] at hnew
        subst hnew
        refine SatD.exit ?_
        simp [blockQ]
        refine Le.keep ?_ ?_ ?_ ?_
        · simp
        · simp
        · simp
        · simp
      · simp at e
        rw [if_pos e] at hnew
        have hinst := hnew
        refine SatD.skip ?_
        simp
        refine SatD.regSeq hΓ follows [3, 4, 5, 7, 8, 10, 11, 12] ?_
        simp [d38r7]
        refine SatD.regSeq hΓ follows [3, 4, 5, 7, 8, 10, 11, 12, 51] ?_
        simp [d38r8]
        refine SatD.block ?_ -- 2
        refine SatD.regSeq hΓ follows [3, 4, 5, 7, 8, 10, 11, 12, 51, 52] ?_
        simp [d38r9]
        have heq : ∀ (cost arg : Int) (tails : List Int), edgeOf n.nonterms l.states r s t k cost arg tails = ⟨hd, tails, min cost Inf, k, arg⟩ := by intro cost arg tails; unfold edgeOf; rw [e, hhd]
        have hmin : min r.price Inf = r.price := by simp only [Inf]; omega
        refine SatD.cond rfl (fun e1 => ?_) (fun e1 => ?_)
        · simp only [decide_eq_true_eq] at e1
          refine SatD.regSeq hΓ follows [3, 4, 5, 7, 8, 10, 12, 58] ?_
          simp [d38r10]
          refine SatD.cond rfl (fun e2 => ?_) (fun e2 => ?_)
          · simp only [decide_eq_true_eq] at e2
            have hn2 : new = [⟨hd, [], r.price, k, s⟩] := by rw [← hinst]; simp only [inst, e1, if_true, if_pos e2, heq, hmin]
            refine SatD.regSeq hΓ follows [3, 4, 5, 7, 8, 10, 12] ?_
            simp [d38r11]
            refine SatD.reg hΓ follows [3, 4, 5, 7, 8, 10] ?_
            simp [d38r12, roomOk]
            refine ⟨by omega, ?_⟩
            refine Le.keep ?_ ?_ ?_ ?_
            · simp
            · simp
            · simp [hn2, edgesT, Edge.enc, intsT]
            · simp
          · simp only [decide_eq_false_iff_not] at e2
            have hn2 : new = [] := by rw [← hinst]; simp [inst, e1, e2]
            refine SatD.skip ?_
            simp
            refine Le.keep ?_ ?_ ?_ ?_
            · simp
            · simp
            · simp [hn2]
            · simp
        simp only [decide_eq_false_iff_not] at e1
        refine SatD.regSeq hΓ follows [3, 4, 5, 7, 8, 10, 11, 12, 51, 68] ?_
        simp [d38r13]
        refine SatD.cond rfl (fun e2 => ?_) (fun e2 => ?_)
        · simp only [decide_eq_true_eq] at e2
          have hn2 : new = (List.range l.arcs.length).flatMap (termAt n.nonterms l.states r l.arcs s t k) := by rw [← hinst]; simp only [inst, e2]; rfl
          refine SatD.regSeq hΓ follows [3, 4, 5, 7, 8, 10, 11, 12, 13] ?_
          simp [d38r14]
          refine SatD.block ?_ -- 3
          obtain ⟨ts, hts⟩ : ∃ ts : Nat → List Edge, ∀ i, (List.range i).flatMap (termAt n.nonterms l.states r l.arcs s t k) = ts i := ⟨_, fun _ => rfl⟩
          have hts0 : ts 0 = [] := by rw [← hts]; rfl
          have htsS : ∀ i, ts (i + 1) = ts i ++ termAt n.nonterms l.states r l.arcs s t k i := fun i => by rw [← hts, ← hts, inst2_succ]
          have hna := hp.na
          have ltsl : ∀ i, (ts i).length ≤ i := by
            intro i
            induction i with
            | zero => rw [hts0]; simp
            | succ i ih => rw [htsS, List.length_append]; unfold termAt; split <;> simp <;> omega
          rw [hts] at hn2
          refine SatD.loop (fun y : TermSt => ⟨DM.look [(3, .v tn), (4, .v tl), (5, .v (.box [ti h, ti s, ti t])), (7, .aref 2000 0), (8, .v (ti hd)), (10, .v (ti k)), (11, .v (.box [ti r.kind, ti r.head, ti r.a, ti r.b, ti r.price, ti r.origin])), (12, .ptr 4204 0), (13, .v (ti y.i))],
              obs [(4204, .box [.v (ti hd), .nil0, .v (ti y.c), .v (ti y.a), .v (ti y.b)]), (2000, .arr 0 47 5 (edgesT (es ++ ts y.i)))], 6000, 1000, []⟩)
            (fun y => y.i ≤ l.arcs.length) (fun y => l.arcs.length - y.i) ⟨0, r.price, 0, 0⟩ (Le.keep ?_ ?_ ?_ ?_) (by simp) (fun y hy => ?_)
          · simp
          · simp
          · simp [hts0]
          · simp
          obtain ⟨i, c, a', b'⟩ := y
          simp only at hy ⊢
          refine SatD.seq ?_
          refine SatD.regSeq hΓ follows [3, 4, 5, 7, 8, 10, 11, 12, 13, 74] ?_
          simp only [d38r15, ← htl]
          simp
          refine SatD.cond rfl (fun h3 => ?_) (fun h3 => ?_)
          · simp at h3
            obtain ⟨a, hga⟩ : ∃ a, l.arcs.getD i default = a := ⟨_, rfl⟩
            have harow := rowAt_arcs h3
            rw [hga] at harow
            have hac := hp.arc a (by rw [← hga]; simp [h3])
            simp only [Inf] at hac
            have hl3 := ltsl i
            refine SatD.skip ?_
            simp
            refine SatD.seq ?_
            have hS := htsS i
            simp only [termAt, hga, heq] at hS
            obtain ⟨ei, hei⟩ : ∃ ei, (if a.f = s ∧ a.t = t ∧ a.term = r.a then [(⟨hd, [], min (r.price + a.cost) Inf, k, i⟩ : Edge)] else []) = ei := ⟨_, rfl⟩
            rw [hei] at hS
            -- what one round leaves: the cells of e may have turned
            refine SatD.mono_le (Q := fun e s1 => e = .normal ∧ ∃ c a b : Int, Le s1 ⟨DM.look [(3, .v tn), (4, .v tl), (5, .v (.box [ti h, ti s, ti t])), (7, .aref 2000 0), (8, .v (ti hd)), (10, .v (ti k)), (11, .v (.box [ti r.kind, ti r.head, ti r.a, ti r.b, ti r.price, ti r.origin])), (12, .ptr 4204 0), (13, .v (ti i))],
                obs [(4204, .box [.v (ti hd), .nil0, .v (ti c), .v (ti a), .v (ti b)]), (2000, .arr 0 47 5 (edgesT (es ++ ts (i + 1))))], 9000, 1000, []⟩) ?_ ?_
            · refine SatD.block ?_ -- 4
              refine SatD.regSeq hΓ follows [3, 4, 5, 7, 8, 10, 11, 12, 13, 14] ?_
              simp only [d38r16]
              simp [harow, h3, Arc.enc]
              refine SatD.le (Le.keep (o := [(4204, .box [.v (ti hd), .nil0, .v (ti c), .v (ti a'), .v (ti b')]), (2000, .arr 0 47 5 (edgesT (es ++ ts i)))]) (l := [(3, .v tn), (4, .v tl), (5, .v (.box [ti h, ti s, ti t])), (7, .aref 2000 0), (8, .v (ti hd)), (10, .v (ti k)), (11, .v (.box [ti r.kind, ti r.head, ti r.a, ti r.b, ti r.price, ti r.origin])), (12, .ptr 4204 0), (13, .v (ti i)), (14, .v (.box [ti a.f, ti a.t, ti a.term, ti a.cost, .sl (opsT a.ops)]))]) (nxt' := 7000) ?_ ?_ ?_ ?_) ?_
              · simp
              · simp
              · simp
              · simp [← htl]
              refine SatD.regToS hΓ follows [(3, .v tn), (4, .v tl), (5, .v (.box [ti h, ti s, ti t])), (7, .aref 2000 0), (8, .v (ti hd)), (10, .v (ti k)), (11, .v (.box [ti r.kind, ti r.head, ti r.a, ti r.b, ti r.price, ti r.origin])), (12, .ptr 4204 0), (13, .v (ti i)), (14, .v (.box [ti a.f, ti a.t, ti a.term, ti a.cost, .sl (opsT a.ops)])), (100, .v (.bool (decide (a.f = s ∧ a.t = t ∧ a.term = r.a))))] ?_ ?_
              · simp [d38r17]
                repeat' (first | apply And.intro | intro _)
                all_goals first | omega | (simp [*]; done) | (simp; omega)
              refine SatD.cond rfl (fun h4 => ?_) (fun h4 => ?_)
              · simp only [decide_eq_true_eq] at h4
                rw [if_pos h4] at hei
                have hwr : IntKind.i64.wrap (r.price + a.cost) = r.price + a.cost := wrap_id (by omega)
                refine SatD.regSeq hΓ follows [3, 4, 5, 7, 8, 10, 11, 12, 13, 14] ?_
                simp [d38r18]
                refine SatD.regSeq hΓ follows [3, 4, 5, 7, 8, 10, 11, 12, 13] ?_
                simp [d38r19, hwr]
                refine SatD.reg hΓ follows [3, 4, 5, 7, 8, 10, 11, 12, 13] ?_
                simp [d38r20, roomOk]
                refine ⟨by omega, min (r.price + a.cost) Inf, k, i, ?_⟩
                refine Le.keep ?_ ?_ ?_ ?_
                · simp
                · simp
                · simp [hS, ← hei, edgesT, Edge.enc, intsT, Inf]
                · simp
              · simp only [decide_eq_false_iff_not] at h4
                rw [if_neg h4] at hei
                refine SatD.skip ?_
                simp
                refine ⟨c, a', b', ?_⟩
                refine Le.keep ?_ ?_ ?_ ?_
                · simp
                · simp
                · simp [hS, ← hei]
                · simp
            · rintro e s1 ⟨rfl, c, a, b, hle⟩
              refine ⟨_, hle, ?_⟩
              simp
              refine SatD.reg hΓ follows [3, 4, 5, 7, 8, 10, 11, 12, 13] ?_
              simp [d38r21]
              refine ⟨⟨i + 1, c, a, b⟩, Le.keep ?_ ?_ ?_ ?_, ?_, ?_⟩
              · simp
              · simp
              · simp
              · simp
                rw [wrap_id (by omega)]
                exact ⟨htl, rfl⟩
              · simp only; omega
              · simp only; omega
          · simp at h3
            have hi4 : i = l.arcs.length := by omega
            subst hi4
            refine SatD.exit ?_
            simp
            refine Le.keep ?_ ?_ ?_ ?_
            · simp
            · simp
            · simp [hn2]
            · simp
        simp only [decide_eq_false_iff_not] at e2
        have hidx2 : ∀ a f u : Int, 0 ≤ a → a < n.nonterms → 0 ≤ f → f ≤ u → u < l.states → idxT n.nonterms l.states a f u = .tup [ti (idxI n.nonterms l.states a f u), .bool true] := by
          intro a f u k1 k2 k3 k4 k5
          unfold idxT
          rw [if_pos (by unfold isItem; omega)]
        refine SatD.regSeq hΓ follows [3, 4, 5, 7, 8, 10, 11, 12, 51, 116] ?_
        simp [d38r22]
        refine SatD.cond rfl (fun e3 => ?_) (fun e3 => ?_)
        · simp only [decide_eq_true_eq] at e3
          have hn2 : new = [⟨hd, [idxI n.nonterms l.states r.a s t], r.price, k, s⟩] := by rw [← hinst]; simp only [inst, e3]; simp only [heq, hmin]; rfl
          have hx := hidx2 r.a s t (by omega) (by omega) (by omega) (by omega) (by omega)
          refine SatD.regSeq hΓ follows [3, 4, 5, 7, 8, 10, 12, 15] ?_
          simp only [d38r23, ← htn, ← htl]
          simp [Γ38, specP, fnIdx, hx]
          rw [htn, htl]
          refine ⟨hcall _ _ _, ?_⟩
          refine SatD.regSeq hΓ follows [3, 4, 5, 7, 8, 10, 12, 15] ?_
          simp [d38r24]
          refine SatD.regSeq hΓ follows [3, 4, 5, 7, 8, 10, 12] ?_
          simp [d38r25]
          refine SatD.reg hΓ follows [3, 4, 5, 7, 8, 10] ?_
          simp [d38r26, roomOk]
          refine ⟨by omega, ?_⟩
          refine Le.keep ?_ ?_ ?_ ?_
          · simp
          · simp
          · simp [hn2, edgesT, Edge.enc, intsT]
          · simp
        simp only [decide_eq_false_iff_not] at e3
        have e4 : r.kind = 4 := by omega
        obtain ⟨N, hN⟩ : ∃ N, (t - s + 1).toNat = N := ⟨_, rfl⟩
        have hn2 : new = (List.range N).map (binAt n.nonterms l.states r s t k) := by rw [← hinst, ← hN]; simp only [inst, e4]; rfl
        refine SatD.regSeq hΓ follows [3, 4, 5, 7, 8, 10, 11, 12, 143] ?_
        simp [d38r27]
        refine SatD.cond rfl (fun e5 => ?_) (fun e5 => ?_)
        · clear e5
          refine SatD.regSeq hΓ follows [3, 4, 5, 7, 8, 10, 11, 12, 17] ?_
          simp [d38r28]
          refine SatD.block ?_ -- 5
          obtain ⟨ts, hts⟩ : ∃ ts : Nat → List Edge, ∀ i, (List.range i).map (binAt n.nonterms l.states r s t k) = ts i := ⟨_, fun _ => rfl⟩
          have hts0 : ts 0 = [] := by rw [← hts]; rfl
          have htsS : ∀ i, ts (i + 1) = ts i ++ [binAt n.nonterms l.states r s t k i] := fun i => by rw [← hts, ← hts, bin_succ]
          have ltsl : ∀ i, (ts i).length = i := by
            intro i
            rw [← hts]; simp
          rw [hts] at hn2
          refine SatD.loop (fun y : BinSt => ⟨DM.look [(3, .v tn), (4, .v tl), (5, .v (.box [ti h, ti s, ti t])), (7, .aref 2000 0), (8, .v (ti hd)), (10, .v (ti k)), (11, .v (.box [ti r.kind, ti r.head, ti r.a, ti r.b, ti r.price, ti r.origin])), (12, .ptr 4204 0), (17, .v (ti (s + y.i)))],
              obs [(4204, .box [.v (ti hd), .v (.sl y.tl), .v (ti r.price), .v (ti y.a), .v (ti y.b)]), (2000, .arr 0 47 5 (edgesT (es ++ ts y.i)))], 6000, 1000, []⟩)
            (fun y => y.i ≤ N) (fun y => N - y.i) ⟨0, [], 0, 0⟩ (Le.keep ?_ ?_ ?_ ?_) (by simp) (fun y hy => ?_)
          · simp
          · simp
          · simp [hts0]
          · simp
          obtain ⟨i, tl', a', b'⟩ := y
          simp only at hy ⊢
          refine SatD.seq ?_
          refine SatD.regSeq hΓ follows [3, 4, 5, 7, 8, 10, 11, 12, 17, 150] ?_
          simp [d38r29]
          refine SatD.cond rfl (fun h3 => ?_) (fun h3 => ?_)
          · simp at h3
            have hl3 := ltsl i
            have hx := hidx2 r.a s (s + i) (by omega) (by omega) (by omega) (by omega) (by omega)
            have hy2 := hidx2 r.b (s + i) t (by omega) (by omega) (by omega) (by omega) (by omega)
            have hS := htsS i
            simp only [binAt, heq, hmin] at hS
            refine SatD.skip ?_
            simp
            refine SatD.seq ?_
            refine SatD.block ?_ -- 6
            refine SatD.regSeq hΓ follows [3, 4, 5, 7, 8, 10, 11, 12, 17, 18] ?_
            simp only [d38r30, ← htn, ← htl]
            simp [Γ38, specP, fnIdx, hx]
            refine ⟨hcall _ _ _, ?_⟩
            refine SatD.regSeq hΓ follows [3, 4, 5, 7, 8, 10, 11, 12, 17, 18, 20] ?_
            simp [d38r31, Γ38, specP, fnIdx, hy2]
            refine ⟨hcall _ _ _, ?_⟩
            rw [htn, htl]
            refine SatD.regSeq hΓ follows [3, 4, 5, 7, 8, 10, 11, 12, 17, 18, 20] ?_
            simp [d38r32]
            refine SatD.regSeq hΓ follows [3, 4, 5, 7, 8, 10, 11, 12, 17] ?_
            simp [d38r33]
            refine SatD.reg hΓ follows [3, 4, 5, 7, 8, 10, 11, 12, 17] ?_
            simp [d38r34, roomOk]
            refine ⟨by omega, ?_⟩
            refine SatD.reg hΓ follows [3, 4, 5, 7, 8, 10, 11, 12, 17] ?_
            simp [d38r35]
            refine ⟨⟨i + 1, [[ti (idxI n.nonterms l.states r.a s (s + i))], [ti (idxI n.nonterms l.states r.b (s + i) t)]], k, s + i⟩, Le.keep ?_ ?_ ?_ ?_, ?_, ?_⟩
            · simp
            · simp
            · simp [hS, edgesT, Edge.enc, intsT]
            · simp
              rw [wrap_id (by omega)]
              omega
            · simp only; omega
            · simp only; omega
          · simp at h3
            have hi4 : i = N := by omega
            subst hi4
            refine SatD.exit ?_
            simp
            refine Le.keep ?_ ?_ ?_ ?_
            · simp
            · simp
            · simp [hn2]
            · simp
        · simp only [decide_eq_false_iff_not] at e5
          exact absurd e4 e5
    · simp
      refine SatD.reg hΓ follows [3, 4, 5, 7, 8, 10] ?_
      simp [d38r36]
      refine ⟨k + 1, Le.keep ?_ ?_ ?_ ?_, ?_, ?_⟩ -- next round
      · simp
      · simp
      · simp [hsucc]
      · simp
        rw [wrap_id (by omega)]
        exact ⟨htn, rfl⟩
      · omega
      · omega
  · simp at hc
    have hkR : k = n.rules.length := by omega
    subst hkR
    refine SatD.exit ?_
    simp
    refine SatD.regSeq hΓ follows [6] ?_
    simp [d38r37]
    refine SatD.ret ?_
    simp [d38res]
end Go.Proofs
namespace Go.Proofs
open Go.DM Go.DM.Srt
set_option linter.unusedSimpArgs false
set_option linter.unusedVariables false

def itemL (nt st : Int) (rules : List Rule) (arcs : List Arc) (s t : Int) (h : Nat) : List Edge := (List.range h).flatMap fun h : Nat => edgesK nt st rules arcs h s t rules.length
theorem itemL_succ (nt st : Int) (rules : List Rule) (arcs : List Arc) (s t : Int) (h : Nat) : itemL nt st rules arcs s t (h + 1) = itemL nt st rules arcs s t h ++ edgesK nt st rules arcs h s t rules.length := by
  simp [itemL, List.range_succ]
theorem edgesK_head {nt st : Int} {rules : List Rule} {arcs : List Arc} {h s t : Int} {k : Nat} {e : Edge} (he : e ∈ edgesK nt st rules arcs h s t k) : e.head = idxI nt st h s t := by
  unfold edgesK at he
  simp only [List.mem_flatMap] at he
  obtain ⟨i, _, he⟩ := he
  split at he
  · rename_i e'
    rw [inst_head he, e']
  · cases he
theorem flat_one {β : Type} (X : Nat → List β) (h0 : Nat) : ∀ m : Nat, (List.range m).flatMap (fun h => if h = h0 then X h else []) = if h0 < m then X h0 else []
  | 0 => by simp
  | m + 1 => by
    rw [List.range_succ, List.flatMap_append, flat_one X h0 m]
    simp only [List.flatMap_cons, List.flatMap_nil, List.append_nil]
    by_cases h1 : h0 < m
    · rw [if_pos h1, if_neg (by omega), if_pos (by omega), List.append_nil]
    · by_cases h2 : m = h0
      · rw [if_neg h1, if_pos h2, if_pos (by omega), h2]; rfl
      · rw [if_neg h1, if_neg h2, if_neg (by omega)]; rfl
theorem filter_all {β : Type} {p : β → Bool} {l : List β} {b : Bool} (h : ∀ x ∈ l, p x = b) : l.filter p = if b = true then l else [] := by
  cases b with
  | true => rw [if_pos rfl]; exact List.filter_eq_self.2 h
  | false => rw [if_neg (by simp)]; exact List.filter_eq_nil_iff.2 fun x hx => by rw [h x hx]; simp
theorem filter_flat {β : Type} (p : β → Bool) (g : Nat → List β) (q : Nat → Bool) : ∀ l : List Nat, (∀ h ∈ l, ∀ x ∈ g h, p x = q h) → (l.flatMap g).filter p = l.flatMap fun h => if q h = true then g h else []
  | [], _ => rfl
  | h :: l, hp => by
    rw [List.flatMap_cons, List.filter_append, filter_flat p g q l fun i hi => hp i (by simp [hi]), List.flatMap_cons, filter_all (hp h (by simp))]
theorem eqvH_eq (z e : Edge) : eqv ltH z e = decide (z.head = e.head) := by
  rw [Bool.eq_iff_iff, eqvH, decide_eq_true_eq]
theorem flat_congr {β : Type} {g g' : Nat → List β} {l : List Nat} (h : ∀ i ∈ l, g i = g' i) : l.flatMap g = l.flatMap g' := by
  induction l with
  | nil => rfl
  | cons x l ih => rw [List.flatMap_cons, List.flatMap_cons, h x (by simp), ih fun i hi => h i (by simp [hi])]

theorem span_eq {n : Normal} {l : Lattice} (hp : FairP n l) {s t : Int} (hs : 0 ≤ s) : spanE n.nonterms l.states n.rules l.arcs s t = itemL n.nonterms l.states n.rules l.arcs s t n.nonterms.toNat := by
  have hnt := hp.nt
  unfold spanE
  refine isort_eq swoH ?_ fun z => ?_
  · unfold Sorted itemL
    rw [List.pairwise_flatMap]
    refine ⟨fun h hh => ?_, (range_lt _).imp fun {a b} hab x hx y hy => ?_⟩
    · rw [List.pairwise_iff_forall_sublist]
      intro a b hsub
      have h1 := edgesK_head (hsub.subset (by simp : a ∈ [a, b]))
      have h2 := edgesK_head (hsub.subset (by simp : b ∈ [a, b]))
      simp only [ltH, h1, h2, decide_eq_false_iff_not]; omega
    · have h1 := edgesK_head hx
      have h2 := edgesK_head hy
      simp only [ltH, h1, h2, decide_eq_false_iff_not, idx_eq hs]; omega
  · have e1 : (itemL n.nonterms l.states n.rules l.arcs s t n.nonterms.toNat).filter (eqv ltH z) = (List.range n.nonterms.toNat).flatMap fun h : Nat => if decide (z.head = idxI n.nonterms l.states h s t) = true then edgesK n.nonterms l.states n.rules l.arcs h s t n.rules.length else [] := by
      unfold itemL
      exact filter_flat _ _ (fun h : Nat => decide (z.head = idxI n.nonterms l.states h s t)) _ fun h _ x hx => by rw [eqvH_eq, edgesK_head hx]
    have e2 : (spanL n.nonterms l.states n.rules l.arcs s t n.rules.length).filter (eqv ltH z) = (List.range n.rules.length).flatMap fun k => if decide (z.head = idxI n.nonterms l.states (n.rules.getD k default).head s t) = true then inst n.nonterms l.states (n.rules.getD k default) l.arcs s t k else [] := by
      unfold spanL
      exact filter_flat _ _ (fun k => decide (z.head = idxI n.nonterms l.states (n.rules.getD k default).head s t)) _ fun k _ x hx => by rw [eqvH_eq, inst_head hx]
    rw [e1, e2]
    simp only [decide_eq_true_eq, idx_eq hs]
    obtain ⟨h0, hh0⟩ : ∃ h0 : Int, z.head = spanI l.states s t * n.nonterms + h0 := ⟨z.head - spanI l.states s t * n.nonterms, by omega⟩
    rw [hh0]
    by_cases hr : 0 ≤ h0 ∧ h0 < n.nonterms
    · have e3 : (List.range n.nonterms.toNat).flatMap (fun h : Nat => if spanI l.states s t * n.nonterms + h0 = spanI l.states s t * n.nonterms + (h : Int) then edgesK n.nonterms l.states n.rules l.arcs h s t n.rules.length else [])
          = (List.range n.nonterms.toNat).flatMap (fun h : Nat => if h = h0.toNat then edgesK n.nonterms l.states n.rules l.arcs h s t n.rules.length else []) := by
        refine flat_congr fun i _ => ?_
        by_cases e : i = h0.toNat
        · rw [if_pos e, if_pos (by omega)]
        · rw [if_neg e, if_neg (by omega)]
      rw [e3, flat_one, if_pos (by omega)]
      unfold edgesK
      refine flat_congr fun i _ => ?_
      rw [show ((h0.toNat : Nat) : Int) = h0 by omega]
      by_cases e : (n.rules.getD i default).head = h0
      · rw [if_pos e, if_pos (by omega)]
      · rw [if_neg e, if_neg (by omega)]
    · have z1 : ∀ (g : Nat → List Edge) (l : List Nat), (∀ i ∈ l, g i = []) → l.flatMap g = [] := fun g l h => by rw [flat_congr (g' := fun _ => []) h]; simp
      rw [z1 _ _ fun i hi => ?_, z1 _ _ fun i hi => ?_]
      · rw [List.mem_range] at hi
        have := hp.head (n.rules.getD i default) (by simp [hi])
        exact if_neg (by omega)
      · rw [List.mem_range] at hi
        exact if_neg (by omega)
end Go.Proofs
namespace Go.Proofs
open Go.DM Go.DM.Srt
set_option linter.unusedSimpArgs false
set_option linter.unusedVariables false

def pre38 (ts : List T) : Prop := ∃ (n : Normal) (l : Lattice) (h s t : Int), ts = [n.enc, l.enc, .agg [ti h, ti s, ti t]] ∧ FairP n l ∧ isItem n.nonterms l.states h s t
def fn38 : List T → T
  | [n, l, .agg [.int _ h, .int _ s, .int _ t]] => .sl (edgesT (edgesK (decN n).nonterms (decL l).states (decN n).rules (decL l).arcs h s t (decN n).rules.length))
  | _ => .bool false
noncomputable def Γ12 : Env := envOf [(38, specP pre38 fn38 false), (18, specP preNLX fnIdx false), (39, specP preNL fnCount true)]
theorem ok12 : EnvOk Try.prog Γ12 := by
  refine EnvOk.cons (EnvOk.cons (EnvOk.cons EnvOk.nil ?_) ?_) ?_
  · rintro ts ⟨n, l, rfl, h⟩
    exact ⟨by simpa [fnCount] using t39 EnvOk.nil n l h, fun _ => rfl⟩
  · rintro ts ⟨n, l, h, f, t, rfl, hs⟩
    exact ⟨by simpa [fnIdx, idxT] using t18 n l h f t hs, fun h => by cases h⟩
  · rintro ts ⟨n, l, h, s, t, rfl, hp, hi⟩
    exact ⟨by simpa [fn38] using t38 n l hp h s t hi, fun h => by cases h⟩
theorem itemL_len {n : Normal} {l : Lattice} (h : Fit n l) {s t : Int} (hf : okF s t) (k : Nat) (hk : k ≤ 1000) : (itemL n.nonterms l.states n.rules l.arcs s t k).length ≤ 10000000000 := by
  have := flat_length (fun i : Nat => edgesK n.nonterms l.states n.rules l.arcs i s t n.rules.length) 10000000 (List.range k) fun i _ => edgesK_len h hf _ (Nat.le_refl _)
  simp only [List.length_range] at this
  unfold itemL
  omega
theorem rows_edges {es : List Edge} : ∀ x ∈ edgesT es, x.length = 5 := by
  intro x hx
  simp only [edgesT, List.mem_map] at hx
  obtain ⟨e, _, rfl⟩ := hx
  rfl

set_option maxRecDepth 20000 in
set_option maxHeartbeats 8000000 in
theorem t12 (n : Normal) (l : Lattice) (hp : FairP n l) : CallsOk Try.prog 12 [n.enc, l.enc] (.agg [ti (goalI n.nonterms l.states + 1), .sl (edgesT (hyper n l))]) := by
  have hΓ := ok12
  have hfit := hp.fit
  have hsm := hfit.sm
  have hnt := hp.nt
  have hst := hp.st
  have hgb := goal_bound hsm
  have hS : (l.states.toNat : Int) = l.states := by omega
  have hNT : (n.nonterms.toNat : Int) = n.nonterms := by omega
  refine c12.ok (by simp) (initSt_sat ?_)
  simp [Normal.enc, Lattice.enc]
  refine SatD.regSeq hΓ follows [2, 3, 4] ?_
  simp [d12r0]
  refine SatD.regSeq hΓ follows [2, 3, 4, 5] ?_
  simp [d12r1]
  obtain ⟨tn, htn⟩ : ∃ tn, T.box [ti n.terms, ti n.nonterms, ti n.start, .sl (rulesT n.rules)] = tn := ⟨_, rfl⟩
  obtain ⟨tl, htl⟩ : ∃ tl, T.box [ti l.states, .sl (arcsT l.arcs), .sl (intsT l.final)] = tl := ⟨_, rfl⟩
  refine SatD.le (Le.keep (o := [(1005, .box [.v (ti 0), .nil0])]) (l := [(2, .v tn), (3, .v tl), (4, .ptr 1005 0), (5, .nil0)]) (nxt' := 2000) ?_ ?_ ?_ ?_) ?_
  · simp
  · simp
  · simp
  · simp [← htn, ← htl]
  refine SatD.le (Le.nilSlot (k := 5) 47 (sz := 5) (by omega) (by simp)) ?_
  simp only [setO_obs]
  refine SatD.le (Le.keep (o := [(2000, .arr 0 47 5 []), (1005, .box [.v (ti 0), .nil0])]) (l := [(2, .v tn), (3, .v tl), (4, .ptr 1005 0), (5, .aref 2000 0)]) (nxt' := 2500) ?_ ?_ ?_ ?_) ?_
  · simp
  · simp
  · simp
  · simp
  refine SatD.seq ?_
  refine SatD.regSeq hΓ follows [2, 3, 4, 5, 6] ?_
  simp [d12r2]
  refine SatD.block ?_ -- 0
  refine SatD.loop (fun s : Nat => ⟨DM.look [(2, .v tn), (3, .v tl), (4, .ptr 1005 0), (5, .aref 2000 0), (6, .v (ti s))], obs [(2000, .arr 0 47 5 (edgesT (allL n.nonterms l.states n.rules l.arcs s))), (1005, .box [.v (ti 0), .nil0])], 3000, 1000, []⟩)
    (fun s => (s : Int) ≤ l.states) (fun s => l.states.toNat - s) 0 (Le.keep ?_ ?_ ?_ ?_) (by simp; omega) (fun s hs => ?_)
  · simp
  · simp
  · simp [allL, edgesT]
  · simp
  refine SatD.seq ?_
  refine SatD.regSeq hΓ follows [2, 3, 4, 5, 6, 16] ?_
  simp only [d12r3, ← htl]
  simp
  refine SatD.cond rfl (fun hc => ?_) (fun hc => ?_)
  · simp at hc
    refine SatD.skip ?_
    simp
    refine SatD.seq ?_
    refine SatD.block ?_ -- 1
    refine SatD.regSeq hΓ follows [2, 3, 4, 5, 6, 7] ?_
    simp [d12r4]
    refine SatD.block ?_ -- 2
    obtain ⟨es0, hes0⟩ : ∃ es0, allL n.nonterms l.states n.rules l.arcs s = es0 := ⟨_, rfl⟩
    have les0 : es0.length ≤ 100000000000 := by rw [← hes0]; exact allL_len hfit s hs
    refine SatD.loop (fun t : Nat => ⟨DM.look [(2, .v tn), (3, .v tl), (4, .ptr 1005 0), (5, .aref 2000 0), (6, .v (ti s)), (7, .v (ti t))], obs [(2000, .arr 0 47 5 (edgesT (es0 ++ rowL n.nonterms l.states n.rules l.arcs s t))), (1005, .box [.v (ti 0), .nil0])], 4000, 1000, []⟩)
      (fun t => s ≤ t ∧ (t : Int) ≤ l.states) (fun t => l.states.toNat - t) s (Le.keep ?_ ?_ ?_ ?_) ⟨Nat.le_refl _, hs⟩ (fun t ht => ?_)
    · simp
    · simp
    · simp [rowL_self, hes0]
    · simp [← htl]
    obtain ⟨ht1, ht2⟩ := ht
    refine SatD.seq ?_
    refine SatD.regSeq hΓ follows [2, 3, 4, 5, 6, 7, 23] ?_
    simp only [d12r5, ← htl]
    simp
    refine SatD.cond rfl (fun hd => ?_) (fun hd => ?_)
    · simp at hd
      have hokf : okF s t := ⟨by omega, by omega, by omega⟩
      obtain ⟨es1, hes1⟩ : ∃ es1, es0 ++ rowL n.nonterms l.states n.rules l.arcs s t = es1 := ⟨_, rfl⟩
      have les1 : es1.length ≤ 101000000000 := by
        rw [← hes1, List.length_append]
        have := rowL_len hfit s t ht2
        omega
      rw [hes1]
      refine SatD.skip ?_
      simp
      refine SatD.seq ?_
      refine SatD.block ?_ -- 3
      refine SatD.regSeq hΓ follows [2, 3, 4, 5, 6, 7, 8] ?_
      simp [d12r6]
      refine SatD.block ?_ -- 4
      refine SatD.loop (fun h : Nat => ⟨DM.look [(2, .v tn), (3, .v tl), (4, .ptr 1005 0), (5, .aref 2000 0), (6, .v (ti s)), (7, .v (ti t)), (8, .v (ti h))], obs [(2000, .arr 0 47 5 (edgesT (es1 ++ itemL n.nonterms l.states n.rules l.arcs s t h))), (1005, .box [.v (ti 0), .nil0])], 5000, 1000, []⟩)
        (fun h => (h : Int) ≤ n.nonterms) (fun h => n.nonterms.toNat - h) 0 (Le.keep ?_ ?_ ?_ ?_) (by simp; omega) (fun h hh => ?_)
      · simp
      · simp
      · simp [itemL]
      · simp [← htl]
      refine SatD.seq ?_
      refine SatD.regSeq hΓ follows [2, 3, 4, 5, 6, 7, 8, 29] ?_
      simp only [d12r7, ← htn]
      simp
      refine SatD.cond rfl (fun he => ?_) (fun he => ?_)
      · simp at he
        have hit : isItem n.nonterms l.states h s t := by unfold isItem; omega
        obtain ⟨es2, hes2⟩ : ∃ es2, itemL n.nonterms l.states n.rules l.arcs s t h = es2 := ⟨_, rfl⟩
        have les2 : es2.length ≤ 10000000000 := by rw [← hes2]; exact itemL_len hfit hokf h (by omega)
        obtain ⟨es3, hes3⟩ : ∃ es3, edgesK n.nonterms l.states n.rules l.arcs h s t n.rules.length = es3 := ⟨_, rfl⟩
        have les3 : es3.length ≤ 10000000 := by rw [← hes3]; exact edgesK_len hfit hokf _ (Nat.le_refl _)
        rw [hes2]
        refine SatD.skip ?_
        simp
        refine SatD.seq ?_
        refine SatD.block ?_ -- 5
        refine SatD.reg hΓ follows [2, 3, 4, 5, 6, 7, 8] ?_
        simp only [d12r8, ← htl]
        simp [Γ12, specP, fn38, hes3, roomOk]
        refine ⟨⟨n, l, h, s, t, rfl, hp, hit⟩, ⟨rows_edges, by omega, by omega⟩, ?_⟩
        rw [htn, htl]
        refine SatD.reg hΓ follows [2, 3, 4, 5, 6, 7, 8] ?_
        simp [d12r9]
        refine ⟨h + 1, Le.keep ?_ ?_ ?_ ?_, ?_, ?_⟩ -- next round
        · simp
        · simp
        · simp [itemL_succ, hes2, hes3, edgesT]
        · simp
          rw [wrap_id (by omega)]
          try simp [htn, htl]
        · omega
        · omega
      · simp at he
        have hnN : h = n.nonterms.toNat := by omega
        refine SatD.exit ?_
        simp
        refine SatD.reg hΓ follows [2, 3, 4, 5, 6, 7] ?_
        simp [d12r10]
        refine ⟨t + 1, Le.keep ?_ ?_ ?_ ?_, ⟨?_, ?_⟩, ?_⟩ -- next round
        · simp
        · simp
        · have := span_eq hp (s := (s : Int)) (t := t) (by omega)
          rw [rowL_succ _ _ _ _ _ _ ht1, ← List.append_assoc, hes1, this, hnN]
          simp
        · simp
          rw [wrap_id (by omega)]
          try simp [htn, htl]
        · omega
        · omega
        · omega
    · simp at hd
      refine SatD.exit ?_
      simp
      refine SatD.reg hΓ follows [2, 3, 4, 5, 6] ?_
      simp [d12r11]
      have htS : t = l.states.toNat := by omega
      refine ⟨s + 1, Le.keep ?_ ?_ ?_ ?_, ?_, ?_⟩ -- next round
      · simp
      · simp
      · rw [allL_succ, hes0, htS]
        simp
      · simp
        rw [wrap_id (by omega)]
        try simp [htn, htl]
      · omega
      · omega
  · simp at hc
    have hsS : s = l.states.toNat := by omega
    have hgoal := goal_eq (nt := n.nonterms) (st := l.states) (by omega)
    obtain ⟨gl, hgl⟩ : ∃ gl, goalI n.nonterms l.states = gl := ⟨_, rfl⟩
    rw [hgl] at hgb
    obtain ⟨es6, hes6⟩ : ∃ es6, allL n.nonterms l.states n.rules l.arcs l.states.toNat = es6 := ⟨_, rfl⟩
    have les6 : es6.length ≤ 100000000000 := by rw [← hes6]; exact allL_len hfit _ (by omega)
    have hnf := hp.nfin
    have hstart := hp.start
    refine SatD.exit ?_
    simp
    rw [hsS, hes6]
    refine SatD.regSeq hΓ follows [2, 3, 4, 5, 9] ?_
    simp only [d12r12, ← htn]
    simp [Γ12, specP, fnCount, hgl]
    refine ⟨⟨n, l, rfl, hsm⟩, ?_⟩
    rw [htn, htl]
    rw [wrap_id (by omega)]
    refine SatD.seq ?_
    refine SatD.regSeq hΓ follows [2, 3, 4, 5, 9, 10] ?_
    simp [d12r13]
    refine SatD.block ?_ -- 6
    refine SatD.loop (fun k : Nat => ⟨DM.look [(2, .v tn), (3, .v tl), (4, .ptr 1005 0), (5, .aref 2000 0), (9, .v (ti gl)), (10, .v (ti k))], obs [(2000, .arr 0 47 5 (edgesT (es6 ++ finL n.nonterms l.states n.start l.final k))), (1005, .box [.v (ti 0), .nil0])], 4000, 1000, []⟩)
      (fun k => k ≤ l.final.length) (fun k => l.final.length - k) 0 (Le.keep ?_ ?_ ?_ ?_) (by simp) (fun k hk => ?_)
    · simp
    · simp
    · simp [finL]
    · simp
    refine SatD.seq ?_
    refine SatD.regSeq hΓ follows [2, 3, 4, 5, 9, 10, 48] ?_
    simp only [d12r14, ← htl]
    simp
    rw [htl]
    refine SatD.cond rfl (fun he => ?_) (fun he => ?_)
    · simp at he
      have he' : k < l.final.length := by omega
      obtain ⟨c, hcf⟩ : ∃ c, l.final.getD k default = c := ⟨_, rfl⟩
      have hrow := rowAt_ints he'
      rw [hcf] at hrow
      obtain ⟨es7, hes7⟩ : ∃ es7, es6 ++ finL n.nonterms l.states n.start l.final k = es7 := ⟨_, rfl⟩
      have les7 : es7.length ≤ 101000000000 := by
        rw [← hes7, List.length_append]
        have := finL_len hfit k hk
        omega
      have hx : idxT n.nonterms l.states n.start 0 k = .tup [ti (idxI n.nonterms l.states n.start 0 k), .bool true] := by
        unfold idxT
        rw [if_pos (by unfold isItem; omega)]
      rw [hes7]
      refine SatD.skip ?_
      simp
      refine SatD.seq ?_
      refine SatD.block ?_ -- 7
      refine SatD.regSeq hΓ follows [2, 3, 4, 5, 9, 10, 56] ?_
      simp only [d12r15, ← htl]
      simp [hrow, he']
      rw [htl]
      refine SatD.to ⟨DM.look [(2, .v tn), (3, .v tl), (4, .ptr 1005 0), (5, .aref 2000 0), (9, .v (ti gl)), (10, .v (ti k))], obs [(2000, .arr 0 47 5 (edgesT (es6 ++ finL n.nonterms l.states n.start l.final (k + 1)))), (1005, .box [.v (ti 0), .nil0])], 6000, 1000, []⟩ ?_ ?_
      · refine SatD.cond rfl (fun h5 => ?_) (fun h5 => ?_)
        · simp at h5
          have hfe : finE n.nonterms l.states n.start l.final k = [⟨gl, [idxI n.nonterms l.states n.start 0 k], c, -1, k⟩] := by unfold finE; rw [hcf, if_pos (by simpa [Inf] using h5), hgl]
          refine SatD.regSeq hΓ follows [2, 3, 4, 5, 9, 10, 11] ?_
          simp only [d12r16, ← htn, ← htl]
          simp [Γ12, specP, fnIdx, hx]
          refine ⟨⟨n, l, n.start, 0, k, rfl, hsm⟩, ?_⟩
          refine SatD.reg hΓ follows [2, 3, 4, 5, 9, 10] ?_
          simp [d12r17, hrow, he', roomOk]
          refine ⟨⟨by omega, by omega⟩, ?_⟩
          refine Le.keep ?_ ?_ ?_ ?_
          · simp
          · simp
          · rw [finL_succ, ← List.append_assoc, hes7, hfe]
            simp [edgesT, Edge.enc, intsT]
          · simp [← htn, ← htl]
        · simp at h5
          have hfe : finE n.nonterms l.states n.start l.final k = [] := by unfold finE; rw [hcf, if_neg (by simp [Inf]; omega)]
          refine SatD.skip ⟨rfl, Le.keep ?_ ?_ ?_ ?_⟩
          · simp
          · simp
          · rw [finL_succ, ← List.append_assoc, hes7, hfe]
            simp
          · simp
      · simp
        refine SatD.reg hΓ follows [2, 3, 4, 5, 9, 10] ?_
        simp [d12r18]
        refine ⟨k + 1, Le.keep ?_ ?_ ?_ ?_, ?_, ?_⟩ -- next round
        · simp
        · simp
        · simp
        · simp
          rw [wrap_id (by omega)]
        · omega
        · omega
    · simp at he
      have hkF : k = l.final.length := by omega
      refine SatD.exit ?_
      simp
      refine SatD.regSeq hΓ follows [4] ?_
      simp [d12r19]
      rw [wrap_id (by omega)]
      refine SatD.ret ?_
      simp [d12res, hyper, hes6, hkF]
end Go.Proofs
namespace Go.Proofs
open Go.DM Go.DM.Srt
set_option linter.unusedSimpArgs false
set_option linter.unusedVariables false

/-- A hyperedge that fits a graph of nd nodes. -/
def okE (nd : Int) (e : Edge) : Prop := 0 ≤ e.head ∧ e.head < nd ∧ 0 ≤ e.cost ∧ e.cost ≤ Inf ∧ e.tails.length ≤ 10 ∧ ∀ x ∈ e.tails, 0 ≤ x ∧ x < nd

set_option maxRecDepth 20000 in
set_option maxHeartbeats 8000000 in
theorem t14 (nd : Int) (es : List Edge) (hnd : 1 ≤ nd ∧ nd ≤ 1048576) (hok : ∀ e ∈ es, okE nd e) (hlen : es.length ≤ 140737488355328) : CallsOk Try.prog 14 [.agg [ti nd, .sl (edgesT es)]] (.bool true) := by
  have hΓ : EnvOk Try.prog (envOf []) := EnvOk.nil
  refine c14.ok (by simp) (initSt_sat ?_)
  simp
  refine SatD.regSeq hΓ follows [1] ?_
  simp [d14r0]
  refine SatD.le (Le.keep (o := []) (l := [(1, .v (.box [ti nd, .sl (edgesT es)]))]) (nxt' := 2000) ?_ ?_ ?_ ?_) ?_
  · simp
  · simp
  · simp
  · simp
  refine SatD.seq ?_
  refine SatD.regToS hΓ follows [(1, .v (.box [ti nd, .sl (edgesT es)])), (13, .v (.bool false))] ?_ ?_
  · simp [d14r1]
    omega
  refine SatD.cond rfl (fun h => by cases h) (fun _ => ?_)
  refine SatD.skip ?_
  simp
  refine SatD.seq ?_
  refine SatD.regSeq hΓ follows [1, 3] ?_
  simp [d14r3]
  refine SatD.block ?_ -- 0
  refine SatD.loop (fun i : Nat => ⟨DM.look [(1, .v (.box [ti nd, .sl (edgesT es)])), (3, .v (ti i))], obs [], 3000, 1000, []⟩) (fun i => i ≤ es.length) (fun i => es.length - i) 0 (Le.keep ?_ ?_ ?_ ?_) (by simp) (fun i hi => ?_)
  · simp
  · simp
  · simp
  · simp
  refine SatD.seq ?_
  refine SatD.regSeq hΓ follows [1, 3, 18] ?_
  simp [d14r4]
  refine SatD.cond rfl (fun hc => ?_) (fun hc => ?_)
  · simp at hc
    obtain ⟨e, hge⟩ : ∃ e, es.getD i default = e := ⟨_, rfl⟩
    have hrow := rowAt_edges hc
    rw [hge] at hrow
    obtain ⟨k1, k2, k3, k4, k5, k6⟩ := hok e (by rw [← hge]; simp [hc])
    simp only [Inf] at k4
    refine SatD.skip ?_
    simp
    refine SatD.seq ?_
    refine SatD.block ?_ -- 1
    refine SatD.regSeq hΓ follows [1, 3, 4] ?_
    simp [d14r5, hrow, hc, Edge.enc]
    refine SatD.le (Le.keep (o := []) (l := [(1, .v (.box [ti nd, .sl (edgesT es)])), (3, .v (ti i)), (4, .v (.box [ti e.head, .sl (intsT e.tails), ti e.cost, ti e.l0, ti e.l1]))]) (nxt' := 4000) ?_ ?_ ?_ ?_) ?_
    · simp
    · simp
    · simp
    · simp
    refine SatD.seq ?_
    refine SatD.regToS hΓ follows [(1, .v (.box [ti nd, .sl (edgesT es)])), (3, .v (ti i)), (4, .v (.box [ti e.head, .sl (intsT e.tails), ti e.cost, ti e.l0, ti e.l1])), (45, .v (.bool false))] ?_ ?_
    · simp [d14r6]
      repeat' (first | apply And.intro | intro _)
      all_goals first | omega | (simp; omega)
    refine SatD.cond rfl (fun h => by cases h) (fun _ => ?_)
    refine SatD.skip ?_
    simp
    refine SatD.regSeq hΓ follows [1, 3, 4, 5] ?_
    simp [d14r8]
    refine SatD.block ?_ -- 2
    refine SatD.loop (fun j : Nat => ⟨DM.look [(1, .v (.box [ti nd, .sl (edgesT es)])), (3, .v (ti i)), (4, .v (.box [ti e.head, .sl (intsT e.tails), ti e.cost, ti e.l0, ti e.l1])), (5, .v (ti j))], obs [], 5000, 1000, []⟩) (fun j => j ≤ e.tails.length) (fun j => e.tails.length - j) 0 (Le.keep ?_ ?_ ?_ ?_) (by simp) (fun j hj => ?_)
    · simp
    · simp
    · simp
    · simp
    refine SatD.seq ?_
    refine SatD.regSeq hΓ follows [1, 3, 4, 5, 50] ?_
    simp [d14r9]
    refine SatD.cond rfl (fun hd => ?_) (fun hd => ?_)
    · simp at hd
      obtain ⟨x, hgx⟩ : ∃ x, e.tails.getD j default = x := ⟨_, rfl⟩
      have hrx := rowAt_ints hd
      rw [hgx] at hrx
      have hx := k6 x (by rw [← hgx]; simp [hd])
      refine SatD.skip ?_
      simp
      refine SatD.seq ?_
      refine SatD.block ?_ -- 3
      refine SatD.regToS hΓ follows [(1, .v (.box [ti nd, .sl (edgesT es)])), (3, .v (ti i)), (4, .v (.box [ti e.head, .sl (intsT e.tails), ti e.cost, ti e.l0, ti e.l1])), (5, .v (ti j)), (68, .v (.bool false))] ?_ ?_
      · simp [d14r10, hrx, hd]
        repeat' (first | apply And.intro | intro _)
        all_goals first | omega | (simp; omega)
      refine SatD.cond rfl (fun h => by cases h) (fun _ => ?_)
      refine SatD.skip ?_
      simp
      refine SatD.reg hΓ follows [1, 3, 4, 5] ?_
      simp [d14r12]
      refine ⟨j + 1, Le.keep ?_ ?_ ?_ ?_, ?_, ?_⟩ -- next round
      · simp
      · simp
      · simp
      · simp
        rw [wrap_id (by omega)]
      · omega
      · omega
    · simp at hd
      refine SatD.exit ?_
      simp
      refine SatD.reg hΓ follows [1, 3] ?_
      simp [d14r13]
      refine ⟨i + 1, Le.keep ?_ ?_ ?_ ?_, ?_, ?_⟩ -- next round
      · simp
      · simp
      · simp
      · simp
        rw [wrap_id (by omega)]
      · omega
      · omega
  · simp at hc
    refine SatD.exit ?_
    simp
    refine SatD.regSeq hΓ follows [2] ?_
    simp [d14r14]
    refine SatD.ret ?_
    simp [d14res]
end Go.Proofs
namespace Go.Proofs
open Go.DM Go.DM.Srt
set_option linter.unusedSimpArgs false
set_option linter.unusedVariables false

theorem idx_ok {n : Normal} {l : Lattice} (hp : FairP n l) {a s t : Int} (h1 : 0 ≤ a ∧ a < n.nonterms) (h2 : 0 ≤ s) (h3 : s ≤ t) (h4 : t < l.states) : 0 ≤ idxI n.nonterms l.states a s t ∧ idxI n.nonterms l.states a s t < goalI n.nonterms l.states + 1 := by
  have := idx_lt hp.fit.sm (show isItem n.nonterms l.states a s t by unfold isItem; omega)
  rw [idx_eq h2]
  omega
theorem inst_ok {n : Normal} {l : Lattice} (hp : FairP n l) {r : Rule} (hr : r ∈ n.rules) {s t k : Int} (h2 : 0 ≤ s) (h3 : s ≤ t) (h4 : t < l.states) {e : Edge} (he : e ∈ inst n.nonterms l.states r l.arcs s t k) : okE (goalI n.nonterms l.states + 1) e := by
  obtain ⟨rb, rk⟩ := hp.rules r hr
  unfold ruleBad at rb
  unfold bodyOk at rk
  have hh := idx_ok hp (a := r.head) (by omega) h2 h3 h4
  have mk : ∀ (c arg : Int) (tl : List Int), 0 ≤ c → tl.length ≤ 10 → (∀ x ∈ tl, 0 ≤ x ∧ x < goalI n.nonterms l.states + 1) → okE (goalI n.nonterms l.states + 1) (edgeOf n.nonterms l.states r s t k c arg tl) := by
    intro c arg tl hc hl ht
    refine ⟨hh.1, hh.2, ?_, ?_, hl, ht⟩ <;> simp only [edgeOf, Inf] <;> omega
  unfold inst at he
  split at he
  · split at he
    · simp only [List.mem_singleton] at he; subst he
      exact mk _ _ _ (by omega) (by simp) (by simp)
    · cases he
  split at he
  · simp only [List.mem_flatMap, List.mem_range] at he
    obtain ⟨i, hi, he⟩ := he
    split at he
    · simp only [List.mem_singleton] at he; subst he
      have ha := hp.arc (l.arcs.getD i default) (by simp [hi])
      exact mk _ _ _ (by omega) (by simp) (by simp)
    · cases he
  split at he
  · simp only [List.mem_singleton] at he; subst he
    refine mk _ _ _ (by omega) (by simp) fun x hx => ?_
    simp only [List.mem_singleton] at hx; subst hx
    exact idx_ok hp (by omega) h2 h3 h4
  split at he
  · simp only [List.mem_map, List.mem_range] at he
    obtain ⟨j, hj, rfl⟩ := he
    refine mk _ _ _ (by omega) (by simp) fun x hx => ?_
    simp only [List.mem_cons, List.not_mem_nil, or_false] at hx
    rcases hx with rfl | rfl
    · exact idx_ok hp (by omega) (by omega) (by omega) (by omega)
    · exact idx_ok hp (by omega) (by omega) (by omega) (by omega)
  · cases he
theorem hyper_ok {n : Normal} {l : Lattice} (hp : FairP n l) : ∀ e ∈ hyper n l, okE (goalI n.nonterms l.states + 1) e := by
  intro e he
  have hst := hp.st
  have hnt := hp.nt
  have hstart := hp.start
  have hgb := goal_bound hp.fit.sm
  unfold hyper at he
  rcases List.mem_append.1 he with he | he
  · unfold allL at he
    simp only [List.mem_flatMap, List.mem_range] at he
    obtain ⟨s, hs, he⟩ := he
    unfold rowL at he
    rw [List.mem_flatMap] at he
    obtain ⟨u, hu, he⟩ := he
    rw [List.mem_iff_getElem] at hu
    obtain ⟨j, hj, rfl⟩ := hu
    simp only [List.length_drop, List.length_range] at hj
    rw [List.getElem_drop, List.getElem_range] at he
    unfold spanE at he
    rw [mem_isort] at he
    simp only [spanL, List.mem_flatMap, List.mem_range] at he
    obtain ⟨i, hi, he⟩ := he
    exact inst_ok hp (by simp [hi]) (by omega) (by omega) (by omega) he
  · obtain ⟨t, ht, rfl, hc⟩ := finL_head he
    have hf := hp.fin (l.final.getD t default) (by simp [ht])
    have hl := hp.nfin
    refine ⟨hgb.1, by simp only; omega, hf.1, hf.2, by simp, fun x hx => ?_⟩
    simp only [List.mem_singleton] at hx; subst hx
    exact idx_ok hp (by omega) (by omega) (by omega) (by omega)

def pre12 (ts : List T) : Prop := ∃ (n : Normal) (l : Lattice), ts = [n.enc, l.enc] ∧ FairP n l
def pre14 (ts : List T) : Prop := ∃ (nd : Int) (es : List Edge), ts = [.agg [ti nd, .sl (edgesT es)]] ∧ (1 ≤ nd ∧ nd ≤ 1048576) ∧ (∀ e ∈ es, okE nd e) ∧ es.length ≤ 140737488355328
noncomputable def Γ3r : Env := envOf [(9, specP (fun ts => ts = []) (fun _ => .bool true) true), (10, specP preFair fnFair true), (11, specP pre11 fn11 false), (12, specP pre12 fn11 false), (13, specP pre13 fn13 true), (14, specP pre14 (fun _ => .bool true) true)]
theorem ok3r : EnvOk Try.prog Γ3r := by
  refine EnvOk.cons (EnvOk.cons (EnvOk.cons (EnvOk.cons (EnvOk.cons (EnvOk.cons EnvOk.nil ?_) ?_) ?_) ?_) ?_) ?_
  · rintro ts ⟨nd, es, rfl, h1, h2, h3⟩
    exact ⟨t14 nd es h1 h2 h3, fun _ => rfl⟩
  · rintro ts ⟨a, b, rfl, h⟩
    exact ⟨by simpa [fn13] using t13 a b h, fun _ => rfl⟩
  · rintro ts ⟨n, l, rfl, h⟩
    exact ⟨by simpa [fn11] using t12 n l h, fun h => by cases h⟩
  · rintro ts ⟨n, l, rfl, h⟩
    exact ⟨by simpa [fn11] using t11 n l h, fun h => by cases h⟩
  · rintro ts ⟨n, l, rfl, h1, h2, h3⟩
    exact ⟨by simpa [fnFair] using t10 n l h1 h2 h3, fun _ => rfl⟩
  · rintro ts rfl
    exact ⟨t9, fun _ => rfl⟩

theorem goal_small {nt st : Int} (h1 : 1 ≤ nt ∧ nt ≤ 14) (h2 : 1 ≤ st ∧ st ≤ 11) : 0 ≤ goalI nt st ∧ goalI nt st ≤ 1000 := by
  have b1 := mul_bound (a := nt) (m := 14) (by omega) (by omega) (b := st) (n := 11) (by omega) (by omega)
  have b2 := mul_bound b1.1 b1.2 (b := st + 1) (n := 12) (by omega) (by omega)
  unfold goalI
  omega

set_option maxRecDepth 20000 in
set_option maxHeartbeats 8000000 in
theorem t3 (n : Normal) (l : Lattice) (hl : n.rules.length ≤ 9223372036854775807) (hf : l.final.length ≤ 9223372036854775807) (ha : l.arcs.length ≤ 9223372036854775807) : CallsOk Try.prog 3 [n.enc, l.enc] (.bool true) := by
  have hΓ := ok3r
  refine c3.ok (by simp) (initSt_sat ?_)
  simp [Normal.enc, Lattice.enc]
  refine SatD.regSeq hΓ follows [2, 3] ?_
  simp [d3r0]
  refine SatD.seq ?_
  refine SatD.regSeq hΓ follows [2, 3, 8] ?_
  simp [d3r1, Γ3r]
  refine SatD.cond rfl (fun h => by cases h) (fun _ => ?_)
  refine SatD.skip ?_
  simp
  refine SatD.seq ?_
  refine SatD.regSeq hΓ follows [2, 3, 12] ?_
  simp [d3r3, Γ3r, specP, fnFair]
  refine ⟨⟨n, l, rfl, hl, hf, ha⟩, ?_⟩
  refine SatD.cond rfl (fun h => ?_) (fun h => ?_)
  · refine SatD.regSeq hΓ follows [4] ?_
    simp [d3r4]
    refine SatD.ret ?_
    simp [d3res]
  simp only [Bool.not_eq_false'] at h
  have hp : FairP n l := fairP h
  clear h
  have hfit := hp.fit
  have hlen := hyper_len hfit
  have hok := hyper_ok hp
  have hg := goal_small hp.nt hp.st
  obtain ⟨es, hes⟩ : ∃ es, hyper n l = es := ⟨_, rfl⟩
  have hes' : hyper ⟨n.terms, n.nonterms, n.start, n.rules⟩ ⟨l.states, l.arcs, l.final⟩ = es := hes
  rw [hes] at hlen hok
  generalize hgl : goalI n.nonterms l.states = gl at *
  refine SatD.skip ?_
  simp
  refine SatD.regSeq hΓ follows [5, 6] ?_
  simp [d3r5, Γ3r, specP, fn11, hes', hgl]
  refine ⟨⟨n, l, rfl, hfit⟩, ⟨n, l, rfl, hp⟩, ?_⟩
  refine SatD.regSeq hΓ follows [4] ?_
  simp [d3r6, Γ3r, specP, fn13]
  refine ⟨⟨es, es, rfl, by omega, fun e he => ?_⟩, ⟨gl + 1, es, rfl, by omega, hok, by omega⟩, ?_⟩
  · have := (hok e he).2.2.2.2.1
    omega
  refine SatD.ret ?_
  simp [d3res]
end Go.Proofs
