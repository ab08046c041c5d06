/- Trees of derivations and parses; the derivations of the goal are parses along paths (no program in sight). Conditions: none. -/
import Derived.Test.YtecgedikabjcdaaXae
import Derived.KernelRfl
import Derived.Test.YtecgedikabjcdaaXac
import Derived.ChangeArms
import Derived.ChangeStays
import Derived.ChangeSame
import Derived.RowKit
import Derived.OpenShut
import Derived.Test.YtecgedikabjcdaaXad
namespace Go.Proofs
open Go.DM Go.DM.Srt
set_option linter.unusedSimpArgs false
set_option linter.unusedVariables false

def pre38 (ts : List T) : Prop := ∃ (n : Normal) (l : Lattice) (h s t : Int), ts = [n.enc, l.enc, .agg [ti h, ti s, ti t]] ∧ FairP n l ∧ isItem n.nonterms l.states h s t
def fn38 : List T → T
  | [n, l, .agg [.int _ h, .int _ s, .int _ t]] => .sl (edgesT (edgesK (decN n).nonterms (decL l).states (decN n).rules (decL l).arcs h s t (decN n).rules.length))
  | _ => .bool false
noncomputable def Γ12 : Env := envOf [(38, specP pre38 fn38 false), (18, specP preNLX fnIdx false), (39, specP preNL fnCount true)]
theorem ok12 : EnvOk Try.prog Γ12 := by
  refine EnvOk.cons (EnvOk.cons (EnvOk.cons EnvOk.nil ?_) ?_) ?_
  · rintro ts ⟨n, l, rfl, h⟩
    exact ⟨by simpa [fnCount] using t39 EnvOk.nil n l h, fun _ => rfl⟩
  · rintro ts ⟨n, l, h, f, t, rfl, hs⟩
    exact ⟨by simpa [fnIdx, idxT] using t18 n l h f t hs, fun h => by cases h⟩
  · rintro ts ⟨n, l, h, s, t, rfl, hp, hi⟩
    exact ⟨by simpa [fn38] using t38 n l hp h s t hi, fun h => by cases h⟩
theorem itemL_len {n : Normal} {l : Lattice} (h : Fit n l) {s t : Int} (hf : okF s t) (k : Nat) (hk : k ≤ 1000) : (itemL n.nonterms l.states n.rules l.arcs s t k).length ≤ 10000000000 := by
  have := flat_length (fun i : Nat => edgesK n.nonterms l.states n.rules l.arcs i s t n.rules.length) 10000000 (List.range k) fun i _ => edgesK_len h hf _ (Nat.le_refl _)
  simp only [List.length_range] at this
  unfold itemL
  omega
theorem rows_edges {es : List Edge} : ∀ x ∈ edgesT es, x.length = 5 := by
  intro x hx
  simp only [edgesT, List.mem_map] at hx
  obtain ⟨e, _, rfl⟩ := hx
  rfl

set_option maxRecDepth 20000 in
set_option maxHeartbeats 8000000 in
theorem t12 (n : Normal) (l : Lattice) (hp : FairP n l) : CallsOk Try.prog 12 [n.enc, l.enc] (.agg [ti (goalI n.nonterms l.states + 1), .sl (edgesT (hyper n l))]) := by
  have hΓ := ok12
  have hfit := hp.fit
  have hsm := hfit.sm
  have hnt := hp.nt
  have hst := hp.st
  have hgb := goal_bound hsm
  have hS : (l.states.toNat : Int) = l.states := by omega
  have hNT : (n.nonterms.toNat : Int) = n.nonterms := by omega
  refine c12.ok (by simp) (initSt_sat ?_)
  simp [Normal.enc, Lattice.enc]
  refine SatD.regSeq hΓ follows [2, 3, 4] ?_
  simp [d12r0]
  refine SatD.regSeq hΓ follows [2, 3, 4, 5] ?_
  simp [d12r1]
  obtain ⟨tn, htn⟩ : ∃ tn, T.box [ti n.terms, ti n.nonterms, ti n.start, .sl (rulesT n.rules)] = tn := ⟨_, rfl⟩
  obtain ⟨tl, htl⟩ : ∃ tl, T.box [ti l.states, .sl (arcsT l.arcs), .sl (intsT l.final)] = tl := ⟨_, rfl⟩
  refine SatD.le (Le.keep (o := [(1005, .box [.v (ti 0), .nil0])]) (l := [(2, .v tn), (3, .v tl), (4, .ptr 1005 0), (5, .nil0)]) (nxt' := 2000) ?_ ?_ ?_ ?_) ?_
  · simp
  · simp
  · simp
  · simp [← htn, ← htl]
  refine SatD.le (Le.nilSlot (k := 5) 47 (sz := 5) (by omega) (by simp)) ?_
  simp only [setO_obs]
  refine SatD.le (Le.keep (o := [(2000, .arr 0 47 5 []), (1005, .box [.v (ti 0), .nil0])]) (l := [(2, .v tn), (3, .v tl), (4, .ptr 1005 0), (5, .aref 2000 0)]) (nxt' := 2500) ?_ ?_ ?_ ?_) ?_
  · simp
  · simp
  · simp
  · simp
  refine SatD.seq ?_
  refine SatD.regSeq hΓ follows [2, 3, 4, 5, 6] ?_
  simp [d12r2]
  refine SatD.block ?_ -- 0
  refine SatD.loop (fun s : Nat => ⟨DM.look [(2, .v tn), (3, .v tl), (4, .ptr 1005 0), (5, .aref 2000 0), (6, .v (ti s))], obs [(2000, .arr 0 47 5 (edgesT (allL n.nonterms l.states n.rules l.arcs s))), (1005, .box [.v (ti 0), .nil0])], 3000, 1000, []⟩)
    (fun s => (s : Int) ≤ l.states) (fun s => l.states.toNat - s) 0 (Le.keep ?_ ?_ ?_ ?_) (by simp; omega) (fun s hs => ?_)
  · simp
  · simp
  · simp [allL, edgesT]
  · simp
  refine SatD.seq ?_
  refine SatD.regSeq hΓ follows [2, 3, 4, 5, 6, 16] ?_
  simp only [d12r3, ← htl]
  simp
  refine SatD.cond rfl (fun hc => ?_) (fun hc => ?_)
  · simp at hc
    refine SatD.skip ?_
    simp
    refine SatD.seq ?_
    refine SatD.block ?_ -- 1
    refine SatD.regSeq hΓ follows [2, 3, 4, 5, 6, 7] ?_
    simp [d12r4]
    refine SatD.block ?_ -- 2
    obtain ⟨es0, hes0⟩ : ∃ es0, allL n.nonterms l.states n.rules l.arcs s = es0 := ⟨_, rfl⟩
    have les0 : es0.length ≤ 100000000000 := by rw [← hes0]; exact allL_len hfit s hs
    refine SatD.loop (fun t : Nat => ⟨DM.look [(2, .v tn), (3, .v tl), (4, .ptr 1005 0), (5, .aref 2000 0), (6, .v (ti s)), (7, .v (ti t))], obs [(2000, .arr 0 47 5 (edgesT (es0 ++ rowL n.nonterms l.states n.rules l.arcs s t))), (1005, .box [.v (ti 0), .nil0])], 4000, 1000, []⟩)
      (fun t => s ≤ t ∧ (t : Int) ≤ l.states) (fun t => l.states.toNat - t) s (Le.keep ?_ ?_ ?_ ?_) ⟨Nat.le_refl _, hs⟩ (fun t ht => ?_)
    · simp
    · simp
    · simp [rowL_self, hes0]
    · simp [← htl]
    obtain ⟨ht1, ht2⟩ := ht
    refine SatD.seq ?_
    refine SatD.regSeq hΓ follows [2, 3, 4, 5, 6, 7, 23] ?_
    simp only [d12r5, ← htl]
    simp
    refine SatD.cond rfl (fun hd => ?_) (fun hd => ?_)
    · simp at hd
      have hokf : okF s t := ⟨by omega, by omega, by omega⟩
      obtain ⟨es1, hes1⟩ : ∃ es1, es0 ++ rowL n.nonterms l.states n.rules l.arcs s t = es1 := ⟨_, rfl⟩
      have les1 : es1.length ≤ 101000000000 := by
        rw [← hes1, List.length_append]
        have := rowL_len hfit s t ht2
        omega
      rw [hes1]
      refine SatD.skip ?_
      simp
      refine SatD.seq ?_
      refine SatD.block ?_ -- 3
      refine SatD.regSeq hΓ follows [2, 3, 4, 5, 6, 7, 8] ?_
      simp [d12r6]
      refine SatD.block ?_ -- 4
      refine SatD.loop (fun h : Nat => ⟨DM.look [(2, .v tn), (3, .v tl), (4, .ptr 1005 0), (5, .aref 2000 0), (6, .v (ti s)), (7, .v (ti t)), (8, .v (ti h))], obs [(2000, .arr 0 47 5 (edgesT (es1 ++ itemL n.nonterms l.states n.rules l.arcs s t h))), (1005, .box [.v (ti 0), .nil0])], 5000, 1000, []⟩)
        (fun h => (h : Int) ≤ n.nonterms) (fun h => n.nonterms.toNat - h) 0 (Le.keep ?_ ?_ ?_ ?_) (by simp; omega) (fun h hh => ?_)
      · simp
      · simp
      · simp [itemL]
      · simp [← htl]
      refine SatD.seq ?_
      refine SatD.regSeq hΓ follows [2, 3, 4, 5, 6, 7, 8, 29] ?_
      simp only [d12r7, ← htn]
      simp
      refine SatD.cond rfl (fun he => ?_) (fun he => ?_)
      · simp at he
        have hit : isItem n.nonterms l.states h s t := by unfold isItem; omega
        obtain ⟨es2, hes2⟩ : ∃ es2, itemL n.nonterms l.states n.rules l.arcs s t h = es2 := ⟨_, rfl⟩
        have les2 : es2.length ≤ 10000000000 := by rw [← hes2]; exact itemL_len hfit hokf h (by omega)
        obtain ⟨es3, hes3⟩ : ∃ es3, edgesK n.nonterms l.states n.rules l.arcs h s t n.rules.length = es3 := ⟨_, rfl⟩
        have les3 : es3.length ≤ 10000000 := by rw [← hes3]; exact edgesK_len hfit hokf _ (Nat.le_refl _)
        rw [hes2]
        refine SatD.skip ?_
        simp
        refine SatD.seq ?_
        refine SatD.block ?_ -- 5
        refine SatD.reg hΓ follows [2, 3, 4, 5, 6, 7, 8] ?_
        simp only [d12r8, ← htl]
        simp [Γ12, specP, fn38, hes3, roomOk]
        refine ⟨⟨n, l, h, s, t, rfl, hp, hit⟩, ⟨rows_edges, by omega, by omega⟩, ?_⟩
        rw [htn, htl]
        refine SatD.reg hΓ follows [2, 3, 4, 5, 6, 7, 8] ?_
        simp [d12r9]
        refine ⟨h + 1, Le.keep ?_ ?_ ?_ ?_, ?_, ?_⟩ -- next round
        · simp
        · simp
        · simp [itemL_succ, hes2, hes3, edgesT]
        · simp
          rw [wrap_id (by omega)]
          try simp [htn, htl]
        · omega
        · omega
      · simp at he
        have hnN : h = n.nonterms.toNat := by omega
        refine SatD.exit ?_
        simp
        refine SatD.reg hΓ follows [2, 3, 4, 5, 6, 7] ?_
        simp [d12r10]
        refine ⟨t + 1, Le.keep ?_ ?_ ?_ ?_, ⟨?_, ?_⟩, ?_⟩ -- next round
        · simp
        · simp
        · have := span_eq hp (s := (s : Int)) (t := t) (by omega)
          rw [rowL_succ _ _ _ _ _ _ ht1, ← List.append_assoc, hes1, this, hnN]
          simp
        · simp
          rw [wrap_id (by omega)]
          try simp [htn, htl]
        · omega
        · omega
        · omega
    · simp at hd
      refine SatD.exit ?_
      simp
      refine SatD.reg hΓ follows [2, 3, 4, 5, 6] ?_
      simp [d12r11]
      have htS : t = l.states.toNat := by omega
      refine ⟨s + 1, Le.keep ?_ ?_ ?_ ?_, ?_, ?_⟩ -- next round
      · simp
      · simp
      · rw [allL_succ, hes0, htS]
        simp
      · simp
        rw [wrap_id (by omega)]
        try simp [htn, htl]
      · omega
      · omega
  · simp at hc
    have hsS : s = l.states.toNat := by omega
    have hgoal := goal_eq (nt := n.nonterms) (st := l.states) (by omega)
    obtain ⟨gl, hgl⟩ : ∃ gl, goalI n.nonterms l.states = gl := ⟨_, rfl⟩
    rw [hgl] at hgb
    obtain ⟨es6, hes6⟩ : ∃ es6, allL n.nonterms l.states n.rules l.arcs l.states.toNat = es6 := ⟨_, rfl⟩
    have les6 : es6.length ≤ 100000000000 := by rw [← hes6]; exact allL_len hfit _ (by omega)
    have hnf := hp.nfin
    have hstart := hp.start
    refine SatD.exit ?_
    simp
    rw [hsS, hes6]
    refine SatD.regSeq hΓ follows [2, 3, 4, 5, 9] ?_
    simp only [d12r12, ← htn]
    simp [Γ12, specP, fnCount, hgl]
    refine ⟨⟨n, l, rfl, hsm⟩, ?_⟩
    rw [htn, htl]
    rw [wrap_id (by omega)]
    refine SatD.seq ?_
    refine SatD.regSeq hΓ follows [2, 3, 4, 5, 9, 10] ?_
    simp [d12r13]
    refine SatD.block ?_ -- 6
    refine SatD.loop (fun k : Nat => ⟨DM.look [(2, .v tn), (3, .v tl), (4, .ptr 1005 0), (5, .aref 2000 0), (9, .v (ti gl)), (10, .v (ti k))], obs [(2000, .arr 0 47 5 (edgesT (es6 ++ finL n.nonterms l.states n.start l.final k))), (1005, .box [.v (ti 0), .nil0])], 4000, 1000, []⟩)
      (fun k => k ≤ l.final.length) (fun k => l.final.length - k) 0 (Le.keep ?_ ?_ ?_ ?_) (by simp) (fun k hk => ?_)
    · simp
    · simp
    · simp [finL]
    · simp
    refine SatD.seq ?_
    refine SatD.regSeq hΓ follows [2, 3, 4, 5, 9, 10, 48] ?_
    simp only [d12r14, ← htl]
    simp
    rw [htl]
    refine SatD.cond rfl (fun he => ?_) (fun he => ?_)
    · simp at he
      have he' : k < l.final.length := by omega
      obtain ⟨c, hcf⟩ : ∃ c, l.final.getD k default = c := ⟨_, rfl⟩
      have hrow := rowAt_ints he'
      rw [hcf] at hrow
      obtain ⟨es7, hes7⟩ : ∃ es7, es6 ++ finL n.nonterms l.states n.start l.final k = es7 := ⟨_, rfl⟩
      have les7 : es7.length ≤ 101000000000 := by
        rw [← hes7, List.length_append]
        have := finL_len hfit k hk
        omega
      have hx : idxT n.nonterms l.states n.start 0 k = .tup [ti (idxI n.nonterms l.states n.start 0 k), .bool true] := by
        unfold idxT
        rw [if_pos (by unfold isItem; omega)]
      rw [hes7]
      refine SatD.skip ?_
      simp
      refine SatD.seq ?_
      refine SatD.block ?_ -- 7
      refine SatD.regSeq hΓ follows [2, 3, 4, 5, 9, 10, 56] ?_
      simp only [d12r15, ← htl]
      simp [hrow, he']
      rw [htl]
      refine SatD.to ⟨DM.look [(2, .v tn), (3, .v tl), (4, .ptr 1005 0), (5, .aref 2000 0), (9, .v (ti gl)), (10, .v (ti k))], obs [(2000, .arr 0 47 5 (edgesT (es6 ++ finL n.nonterms l.states n.start l.final (k + 1)))), (1005, .box [.v (ti 0), .nil0])], 6000, 1000, []⟩ ?_ ?_
      · refine SatD.cond rfl (fun h5 => ?_) (fun h5 => ?_)
        · simp at h5
          have hfe : finE n.nonterms l.states n.start l.final k = [⟨gl, [idxI n.nonterms l.states n.start 0 k], c, -1, k⟩] := by unfold finE; rw [hcf, if_pos (by simpa [Inf] using h5), hgl]
          refine SatD.regSeq hΓ follows [2, 3, 4, 5, 9, 10, 11] ?_
          simp only [d12r16, ← htn, ← htl]
          simp [Γ12, specP, fnIdx, hx]
          refine ⟨⟨n, l, n.start, 0, k, rfl, hsm⟩, ?_⟩
          refine SatD.reg hΓ follows [2, 3, 4, 5, 9, 10] ?_
          simp [d12r17, hrow, he', roomOk]
          refine ⟨⟨by omega, by omega⟩, ?_⟩
          refine Le.keep ?_ ?_ ?_ ?_
          · simp
          · simp
          · rw [finL_succ, ← List.append_assoc, hes7, hfe]
            simp [edgesT, Edge.enc, intsT]
          · simp [← htn, ← htl]
        · simp at h5
          have hfe : finE n.nonterms l.states n.start l.final k = [] := by unfold finE; rw [hcf, if_neg (by simp [Inf]; omega)]
          refine SatD.skip ⟨rfl, Le.keep ?_ ?_ ?_ ?_⟩
          · simp
          · simp
          · rw [finL_succ, ← List.append_assoc, hes7, hfe]
            simp
          · simp
      · simp
        refine SatD.reg hΓ follows [2, 3, 4, 5, 9, 10] ?_
        simp [d12r18]
        refine ⟨k + 1, Le.keep ?_ ?_ ?_ ?_, ?_, ?_⟩ -- next round
        · simp
        · simp
        · simp
        · simp
          rw [wrap_id (by omega)]
        · omega
        · omega
    · simp at he
      have hkF : k = l.final.length := by omega
      refine SatD.exit ?_
      simp
      refine SatD.regSeq hΓ follows [4] ?_
      simp [d12r19]
      rw [wrap_id (by omega)]
      refine SatD.ret ?_
      simp [d12res, hyper, hes6, hkF]
end Go.Proofs
namespace Go.Proofs
open Go.DM Go.DM.Srt
set_option linter.unusedSimpArgs false
set_option linter.unusedVariables false

/-- A hyperedge that fits a graph of nd nodes. -/
def okE (nd : Int) (e : Edge) : Prop := 0 ≤ e.head ∧ e.head < nd ∧ 0 ≤ e.cost ∧ e.cost ≤ Inf ∧ e.tails.length ≤ 10 ∧ ∀ x ∈ e.tails, 0 ≤ x ∧ x < nd

end Go.Proofs
namespace Go.Proofs
open Go.DM Go.DM.Srt
set_option linter.unusedSimpArgs false
set_option linter.unusedVariables false

theorem idx_ok {n : Normal} {l : Lattice} (hp : FairP n l) {a s t : Int} (h1 : 0 ≤ a ∧ a < n.nonterms) (h2 : 0 ≤ s) (h3 : s ≤ t) (h4 : t < l.states) : 0 ≤ idxI n.nonterms l.states a s t ∧ idxI n.nonterms l.states a s t < goalI n.nonterms l.states + 1 := by
  have := idx_lt hp.fit.sm (show isItem n.nonterms l.states a s t by unfold isItem; omega)
  rw [idx_eq h2]
  omega
theorem inst_ok {n : Normal} {l : Lattice} (hp : FairP n l) {r : Rule} (hr : r ∈ n.rules) {s t k : Int} (h2 : 0 ≤ s) (h3 : s ≤ t) (h4 : t < l.states) {e : Edge} (he : e ∈ inst n.nonterms l.states r l.arcs s t k) : okE (goalI n.nonterms l.states + 1) e := by
  obtain ⟨rb, rk⟩ := hp.rules r hr
  unfold ruleBad at rb
  unfold bodyOk at rk
  have hh := idx_ok hp (a := r.head) (by omega) h2 h3 h4
  have mk : ∀ (c arg : Int) (tl : List Int), 0 ≤ c → tl.length ≤ 10 → (∀ x ∈ tl, 0 ≤ x ∧ x < goalI n.nonterms l.states + 1) → okE (goalI n.nonterms l.states + 1) (edgeOf n.nonterms l.states r s t k c arg tl) := by
    intro c arg tl hc hl ht
    refine ⟨hh.1, hh.2, ?_, ?_, hl, ht⟩ <;> simp only [edgeOf, Inf] <;> omega
  unfold inst at he
  split at he
  · split at he
    · simp only [List.mem_singleton] at he; subst he
      exact mk _ _ _ (by omega) (by simp) (by simp)
    · cases he
  split at he
  · simp only [List.mem_flatMap, List.mem_range] at he
    obtain ⟨i, hi, he⟩ := he
    split at he
    · simp only [List.mem_singleton] at he; subst he
      have ha := hp.arc (l.arcs.getD i default) (by simp [hi])
      exact mk _ _ _ (by omega) (by simp) (by simp)
    · cases he
  split at he
  · simp only [List.mem_singleton] at he; subst he
    refine mk _ _ _ (by omega) (by simp) fun x hx => ?_
    simp only [List.mem_singleton] at hx; subst hx
    exact idx_ok hp (by omega) h2 h3 h4
  split at he
  · simp only [List.mem_map, List.mem_range] at he
    obtain ⟨j, hj, rfl⟩ := he
    refine mk _ _ _ (by omega) (by simp) fun x hx => ?_
    simp only [List.mem_cons, List.not_mem_nil, or_false] at hx
    rcases hx with rfl | rfl
    · exact idx_ok hp (by omega) (by omega) (by omega) (by omega)
    · exact idx_ok hp (by omega) (by omega) (by omega) (by omega)
  · cases he
theorem hyper_ok {n : Normal} {l : Lattice} (hp : FairP n l) : ∀ e ∈ hyper n l, okE (goalI n.nonterms l.states + 1) e := by
  intro e he
  have hst := hp.st
  have hnt := hp.nt
  have hstart := hp.start
  have hgb := goal_bound hp.fit.sm
  unfold hyper at he
  rcases List.mem_append.1 he with he | he
  · unfold allL at he
    simp only [List.mem_flatMap, List.mem_range] at he
    obtain ⟨s, hs, he⟩ := he
    unfold rowL at he
    rw [List.mem_flatMap] at he
    obtain ⟨u, hu, he⟩ := he
    rw [List.mem_iff_getElem] at hu
    obtain ⟨j, hj, rfl⟩ := hu
    simp only [List.length_drop, List.length_range] at hj
    rw [List.getElem_drop, List.getElem_range] at he
    unfold spanE at he
    rw [mem_isort] at he
    simp only [spanL, List.mem_flatMap, List.mem_range] at he
    obtain ⟨i, hi, he⟩ := he
    exact inst_ok hp (by simp [hi]) (by omega) (by omega) (by omega) he
  · obtain ⟨t, ht, rfl, hc⟩ := finL_head he
    have hf := hp.fin (l.final.getD t default) (by simp [ht])
    have hl := hp.nfin
    refine ⟨hgb.1, by simp only; omega, hf.1, hf.2, by simp, fun x hx => ?_⟩
    simp only [List.mem_singleton] at hx; subst hx
    exact idx_ok hp (by omega) (by omega) (by omega) (by omega)

def pre12 (ts : List T) : Prop := ∃ (n : Normal) (l : Lattice), ts = [n.enc, l.enc] ∧ FairP n l
theorem goal_small {nt st : Int} (h1 : 1 ≤ nt ∧ nt ≤ 14) (h2 : 1 ≤ st ∧ st ≤ 11) : 0 ≤ goalI nt st ∧ goalI nt st ≤ 1000 := by
  have b1 := mul_bound (a := nt) (m := 14) (by omega) (by omega) (b := st) (n := 11) (by omega) (by omega)
  have b2 := mul_bound b1.1 b1.2 (b := st + 1) (n := 12) (by omega) (by omega)
  unfold goalI
  omega

end Go.Proofs
namespace Go.Proofs
open Go.DM Go.DM.Srt
set_option linter.unusedSimpArgs false
set_option linter.unusedVariables false

/-- A derivation, or a parse: a number and what stands below. -/
inductive Tr where
  | mk (n : Int) (kids : List Tr)
instance : Inhabited Tr := ⟨.mk 0 []⟩
mutual
def Tr.enc : Tr → List T
  | .mk n ks => [ti n, .sl (trsT ks)]
def trsT : List Tr → List (List T)
  | [] => []
  | k :: ks => k.enc :: trsT ks
end
mutual
def Tr.sz : Tr → Nat
  | .mk _ ks => trsSz ks + 1
def trsSz : List Tr → Nat
  | [] => 0
  | k :: ks => k.sz + trsSz ks
end
theorem trsT_map : ∀ ks : List Tr, trsT ks = ks.map Tr.enc
  | [] => rfl
  | k :: ks => by rw [trsT, trsT_map ks]; rfl
mutual
theorem enc_inj : ∀ a b : Tr, a.enc = b.enc → a = b
  | .mk n ks, .mk m js, h => by
    simp only [Tr.enc, List.cons.injEq, T.int.injEq, T.sl.injEq, true_and, and_true] at h
    rw [h.1, encs_inj ks js h.2]
theorem encs_inj : ∀ a b : List Tr, trsT a = trsT b → a = b
  | [], [], _ => rfl
  | [], _ :: _, h => by simp [trsT] at h
  | _ :: _, [], h => by simp [trsT] at h
  | a :: js, b :: ks, h => by
    simp only [trsT, List.cons.injEq] at h
    rw [enc_inj a b h.1, encs_inj js ks h.2]
end
@[simp] theorem length_trs (ks : List Tr) : (trsT ks).length = ks.length := by simp [trsT_map]
theorem rowAt_trs {l : List Tr} {y : Nat} (h : y < l.length) : DM.rowAt (trsT l) y = (l.getD y default).enc := by simp [DM.rowAt, trsT_map, h]
theorem sz_getD {l : List Tr} {y : Nat} (h : y < l.length) : (l.getD y default).sz ≤ trsSz l := by
  induction l generalizing y with
  | nil => simp at h
  | cons a l ih =>
    cases y with
    | zero => simp [trsSz]
    | succ y => have := ih (y := y) (by simpa using h); simp only [trsSz, List.getD_cons_succ]; omega
theorem sz_pos (d : Tr) : 1 ≤ d.sz := by cases d; simp [Tr.sz]
theorem length_le_sz : ∀ l : List Tr, l.length ≤ trsSz l
  | [] => by simp [trsSz]
  | a :: l => by have := length_le_sz l; have := sz_pos a; simp only [trsSz, List.length_cons]; omega

section
variable (es : List Edge) (rules : List Rule)
mutual
def validD (root : Int) : Tr → Bool
  | .mk n ks => decide (0 ≤ n ∧ n < es.length) && decide ((es.getD n.toNat default).head = root ∧ ks.length = (es.getD n.toNat default).tails.length) && validDs (es.getD n.toNat default).tails ks
def validDs : List Int → List Tr → Bool
  | t :: ts, k :: ks => validD t k && validDs ts ks
  | _, _ => true
end
def capV (q : Int × Int) : Int × Int := if Inf ≤ q.1 then (Inf, 0) else q
def combV (c : Int) (l : List (Int × Int)) : Int × Int := capV (l.foldl (fun q x => (min (q.1 + x.1) Inf, min (q.2 + x.2) Inf)) (c, 1))
mutual
def valD : Tr → Int × Int
  | .mk n ks => combV (es.getD n.toNat default).cost (valDs ks)
def valDs : List Tr → List (Int × Int)
  | [] => []
  | k :: ks => valD k :: valDs ks
end
def termArc (e : Edge) : List Int := if (rules.getD e.l0.toNat default).kind = 2 then [e.l1] else []
mutual
def parseD : Tr → Tr × List Int
  | .mk n ks => (.mk (es.getD n.toNat default).l0 (parseDs ks).1, termArc rules (es.getD n.toNat default) ++ (parseDs ks).2)
def parseDs : List Tr → List Tr × List Int
  | [] => ([], [])
  | k :: ks => ((parseD k).1 :: (parseDs ks).1, (parseD k).2 ++ (parseDs ks).2)
end
end
section
variable (rules : List Rule)
def kidsOf (r : Rule) : List Int := if r.kind = 3 then [r.a] else if r.kind = 4 then [r.a, r.b] else []
mutual
def validP (head : Int) : Tr → Bool
  | .mk n ks => decide (0 ≤ n ∧ n < rules.length) && decide ((rules.getD n.toNat default).head = head) && decide (ks.length = (kidsOf (rules.getD n.toNat default)).length) && validPs (kidsOf (rules.getD n.toNat default)) ks
def validPs : List Int → List Tr → Bool
  | t :: ts, k :: ks => validP t k && validPs ts ks
  | _, _ => true
end
mutual
def yieldP : Tr → List Int
  | .mk n ks => if (rules.getD n.toNat default).kind = 2 then [(rules.getD n.toNat default).a] else yieldPs ks
def yieldPs : List Tr → List Int
  | [] => []
  | k :: ks => yieldP k ++ yieldPs ks
end
mutual
def priceP : Tr → Int
  | .mk n ks => (rules.getD n.toNat default).price + pricePs ks
def pricePs : List Tr → Int
  | [] => 0
  | k :: ks => priceP k + pricePs ks
end
end

/-- A path over arcs, its end and its cost. -/
def PathR (arcs : List Arc) : Int → List Int → Int → Int → Prop
  | s, [], t, w => s = t ∧ w = 0
  | s, i :: is, t, w => ∃ k : Nat, i = k ∧ k < arcs.length ∧ (arcs.getD k default).f = s ∧ ∃ w', PathR arcs (arcs.getD k default).t is t w' ∧ w = (arcs.getD k default).cost + w'
theorem PathR.append {arcs : List Arc} : ∀ {a b : List Int} {s m t w1 w2 : Int}, PathR arcs s a m w1 → PathR arcs m b t w2 → PathR arcs s (a ++ b) t (w1 + w2)
  | [], b, s, m, t, w1, w2, ⟨h1, h2⟩, k => by subst h1 h2; simpa using k
  | i :: is, b, s, m, t, w1, w2, ⟨q, h1, h2, h3, w', h4, h5⟩, k => ⟨q, h1, h2, h3, w' + w2, PathR.append h4 k, by omega⟩
def termsOf (arcs : List Arc) (is : List Int) : List Int := is.map fun i => (arcs.getD i.toNat default).term

theorem hyper_item {n : Normal} {l : Lattice} (hp : FairP n l) {e : Edge} (he : e ∈ hyper n l) {h s t : Int} (hi : isItem n.nonterms l.states h s t) (hh : e.head = idxI n.nonterms l.states h s t) :
    ∃ i, i < n.rules.length ∧ (n.rules.getD i default).head = h ∧ e ∈ inst n.nonterms l.states (n.rules.getD i default) l.arcs s t i := by
  have hi0 := hi
  unfold isItem at hi0
  have hst := hp.st
  unfold hyper at he
  rcases List.mem_append.1 he with he | he
  · unfold allL at he
    simp only [List.mem_flatMap, List.mem_range] at he
    obtain ⟨s', hs', he⟩ := he
    unfold rowL at he
    rw [List.mem_flatMap] at he
    obtain ⟨u, hu, he⟩ := he
    rw [List.mem_iff_getElem] at hu
    obtain ⟨j, hj, rfl⟩ := hu
    simp only [List.length_drop, List.length_range] at hj
    rw [List.getElem_drop, List.getElem_range] at he
    unfold spanE at he
    rw [mem_isort] at he
    simp only [spanL, List.mem_flatMap, List.mem_range] at he
    obtain ⟨i, hil, he⟩ := he
    have e1 := inst_head he
    have hr := hp.head (n.rules.getD i default) (by simp [hil])
    have i2 : isItem n.nonterms l.states (n.rules.getD i default).head s' ((s' + j : Nat) : Int) := by unfold isItem; omega
    obtain ⟨k1, k2, k3⟩ := item_inj hi i2 (by rw [← idx_eq (by omega), ← idx_eq (by omega), ← hh, e1])
    exact ⟨i, hil, k1.symm, by rw [k2, k3]; exact he⟩
  · obtain ⟨t', ht', rfl, hc⟩ := finL_head he
    have := idx_lt hp.fit.sm hi
    rw [← idx_eq (by omega)] at this
    simp only at hh
    omega

theorem capV_fst (q : Int × Int) : (capV q).1 = min Inf q.1 := by unfold capV; split <;> omega
theorem comb0 {c : Int} : (combV c []).1 = min Inf c := by simp only [combV, List.foldl_nil, capV_fst]
theorem comb1 {c : Int} {x : Int × Int} : (combV c [x]).1 = min Inf (c + x.1) := by simp only [combV, List.foldl_cons, List.foldl_nil, capV_fst]; omega
theorem comb2 {c : Int} {x y : Int × Int} (hy : 0 ≤ y.1) : (combV c [x, y]).1 = min Inf (c + x.1 + y.1) := by simp only [combV, List.foldl_cons, List.foldl_nil, capV_fst]; omega

/-- What a derivation of an item corresponds to. -/
structure Corr (n : Normal) (l : Lattice) (es : List Edge) (h s t : Int) (d : Tr) : Prop where
  valid : validP n.rules h (parseD es n.rules d).1 = true
  path : ∃ w, 0 ≤ w ∧ PathR l.arcs s (parseD es n.rules d).2 t w ∧ (valD es d).1 = min Inf (priceP n.rules (parseD es n.rules d).1 + w)
  terms : termsOf l.arcs (parseD es n.rules d).2 = yieldP n.rules (parseD es n.rules d).1
  price : 0 ≤ priceP n.rules (parseD es n.rules d).1 ∧ priceP n.rules (parseD es n.rules d).1 ≤ 1000 * d.sz
  size : (parseD es n.rules d).1.sz ≤ d.sz ∧ (parseD es n.rules d).2.length ≤ d.sz

theorem corr {n : Normal} {l : Lattice} (hp : FairP n l) : ∀ (N : Nat) (d : Tr) (h s t : Int), d.sz ≤ N → isItem n.nonterms l.states h s t → validD (hyper n l) (idxI n.nonterms l.states h s t) d = true → Corr n l (hyper n l) h s t d := by
  intro N
  induction N with
  | zero => intro d h s t hs; have := sz_pos d; omega
  | succ N ih =>
    rintro ⟨m, ks⟩ h s t hs hi hv
    have hI : Inf = 1099511627776 := rfl
    obtain ⟨es, hes⟩ : ∃ es, hyper n l = es := ⟨_, rfl⟩
    have hmem := fun e he => hyper_item hp (e := e) he hi
    rw [hes] at ih hv hmem ⊢
    simp only [validD, Bool.and_eq_true, decide_eq_true_eq] at hv
    obtain ⟨⟨⟨m1, m2⟩, h1, h2⟩, h3⟩ := hv
    obtain ⟨e, he⟩ : ∃ e, es.getD m.toNat default = e := ⟨_, rfl⟩
    rw [he] at h1 h2 h3
    have hin : e ∈ es := by rw [← he]; simp [show m.toNat < es.length by omega]
    obtain ⟨i, hil, hhd, hin2⟩ := hmem e hin h1
    clear hmem hin
    obtain ⟨r, hr⟩ : ∃ r, n.rules.getD i default = r := ⟨_, rfl⟩
    have hrm : r ∈ n.rules := by rw [← hr]; simp [hil]
    obtain ⟨rb, rk⟩ := hp.rules r hrm
    rw [hr] at hhd hin2
    unfold ruleBad at rb
    unfold bodyOk at rk
    unfold isItem at hi
    simp only [Tr.sz] at hs
    have rl : ∀ q : Nat, q = i → n.rules.getD q default = r := fun q e => by rw [e, hr]
    unfold inst at hin2
    split at hin2
    · rename_i hk
      split at hin2
      · rename_i hst
        rw [List.mem_singleton] at hin2
        subst hin2
        simp only [edgeOf, List.length_nil] at h2
        obtain rfl : ks = [] := List.eq_nil_of_length_eq_zero h2
        have hpz : parseD es n.rules (.mk m []) = (.mk i [], []) := by simp [-List.getD_eq_getElem?_getD, parseD, parseDs, he, edgeOf, termArc, hr, hk]
        refine ⟨?_, ⟨0, by omega, ?_, ?_⟩, ?_, ?_, ?_⟩ <;> rw [hpz]
        · simp [-List.getD_eq_getElem?_getD, validP, validPs, hil, hr, hhd, kidsOf, hk]
        · exact ⟨hst, rfl⟩
        · simp only [valD, valDs, he, comb0, priceP, pricePs, Int.toNat_natCast, hr, edgeOf]; omega
        · simp [-List.getD_eq_getElem?_getD, termsOf, yieldP, yieldPs, hr, hk]
        · simp only [priceP, pricePs, Int.toNat_natCast, hr, Tr.sz, trsSz]; omega
        · simp [Tr.sz, trsSz]
      · cases hin2
    split at hin2
    · rename_i hk1 hk
      simp only [List.mem_flatMap, List.mem_range] at hin2
      obtain ⟨a, ha, hin2⟩ := hin2
      split at hin2
      · rename_i hm
        rw [List.mem_singleton] at hin2
        subst hin2
        simp only [edgeOf, List.length_nil] at h2
        obtain rfl : ks = [] := List.eq_nil_of_length_eq_zero h2
        have har := hp.arc (l.arcs.getD a default) (by simp [ha])
        have hpz : parseD es n.rules (.mk m []) = (.mk i [], [(a : Int)]) := by simp [-List.getD_eq_getElem?_getD, parseD, parseDs, he, edgeOf, termArc, hr, hk]
        obtain ⟨x, hx⟩ : ∃ x, l.arcs.getD a default = x := ⟨_, rfl⟩
        rw [hx] at har hm he
        refine ⟨?_, ⟨x.cost, by omega, ?_, ?_⟩, ?_, ?_, ?_⟩ <;> rw [hpz]
        · simp [-List.getD_eq_getElem?_getD, validP, validPs, hil, hr, hhd, kidsOf, hk]
        · refine ⟨a, rfl, ha, by rw [hx]; exact hm.1, 0, ?_, by rw [hx]; omega⟩
          rw [hx]
          exact ⟨hm.2.1, rfl⟩
        · simp only [valD, valDs, he, comb0, priceP, pricePs, Int.toNat_natCast, hr, edgeOf]; omega
        · simp only [termsOf, List.map_cons, List.map_nil, Int.toNat_natCast, hx, yieldP, hr, if_pos hk, hm.2.2]
        · simp only [priceP, pricePs, Int.toNat_natCast, hr, Tr.sz, trsSz]; omega
        · simp [Tr.sz, trsSz]
      · cases hin2
    split at hin2
    · rename_i hk1 hk2 hk
      rw [List.mem_singleton] at hin2
      subst hin2
      simp only [edgeOf, List.length_cons, List.length_nil] at h2
      obtain ⟨k, rfl⟩ : ∃ k, ks = [k] := by
        match ks, h2 with
        | [k], _ => exact ⟨k, rfl⟩
      simp only [edgeOf, validDs, Bool.and_true] at h3
      simp only [trsSz] at hs
      obtain ⟨c1, ⟨w, c2, c3, c4⟩, c5, c6, c7⟩ := ih k r.a s t (by omega) (by unfold isItem; omega) h3
      obtain ⟨p, hp'⟩ : ∃ p, parseD es n.rules k = p := ⟨_, rfl⟩
      rw [hp'] at c1 c3 c4 c5 c6 c7
      obtain ⟨p, ar⟩ := p
      simp only at c1 c3 c4 c5 c6 c7
      have hpz : parseD es n.rules (.mk m [k]) = (.mk i [p], ar) := by simp [-List.getD_eq_getElem?_getD, parseD, parseDs, he, edgeOf, termArc, hr, hk, hp']
      refine ⟨?_, ⟨w, c2, ?_, ?_⟩, ?_, ?_, ?_⟩ <;> rw [hpz]
      · simp [-List.getD_eq_getElem?_getD, validP, validPs, hil, hr, hhd, kidsOf, hk, c1]
      · exact c3
      · simp only [valD, valDs, he, comb1, priceP, pricePs, Int.toNat_natCast, hr, edgeOf, c4]; omega
      · simp [-List.getD_eq_getElem?_getD, yieldP, yieldPs, hr, hk, c5]
      · simp only [priceP, pricePs, Int.toNat_natCast, hr, Tr.sz, trsSz]; omega
      · simp only [Tr.sz, trsSz]; omega
    split at hin2
    · rename_i hk1 hk2 hk3 hk
      simp only [List.mem_map, List.mem_range] at hin2
      obtain ⟨j, hj, hin2⟩ := hin2
      subst hin2
      simp only [edgeOf, List.length_cons, List.length_nil] at h2
      obtain ⟨k, k', rfl⟩ : ∃ k k', ks = [k, k'] := by
        match ks, h2 with
        | [k, k'], _ => exact ⟨k, k', rfl⟩
      simp only [edgeOf, validDs, Bool.and_true, Bool.and_eq_true] at h3
      simp only [trsSz] at hs
      obtain ⟨c1, ⟨w, c2, c3, c4⟩, c5, c6, c7⟩ := ih k r.a s (s + j) (by omega) (by unfold isItem; omega) h3.1
      obtain ⟨d1, ⟨w', d2, d3, d4⟩, d5, d6, d7⟩ := ih k' r.b (s + j) t (by omega) (by unfold isItem; omega) h3.2
      obtain ⟨p, hp'⟩ : ∃ p, parseD es n.rules k = p := ⟨_, rfl⟩
      rw [hp'] at c1 c3 c4 c5 c6 c7
      obtain ⟨p, ar⟩ := p
      obtain ⟨p', hp2⟩ : ∃ p, parseD es n.rules k' = p := ⟨_, rfl⟩
      rw [hp2] at d1 d3 d4 d5 d6 d7
      obtain ⟨p', ar'⟩ := p'
      simp only at c1 c3 c4 c5 c6 c7 d1 d3 d4 d5 d6 d7
      have hpz : parseD es n.rules (.mk m [k, k']) = (.mk i [p, p'], ar ++ ar') := by simp [-List.getD_eq_getElem?_getD, parseD, parseDs, he, edgeOf, termArc, hr, hk, hp', hp2]
      refine ⟨?_, ⟨w + w', by omega, ?_, ?_⟩, ?_, ?_, ?_⟩ <;> rw [hpz]
      · simp [-List.getD_eq_getElem?_getD, validP, validPs, hil, hr, hhd, kidsOf, hk, c1, d1]
      · exact c3.append d3
      · simp only [valD, valDs, he]
        rw [comb2 (by omega)]
        simp only [priceP, pricePs, Int.toNat_natCast, hr, edgeOf, c4, d4]; omega
      · simp only [yieldP, yieldPs, Int.toNat_natCast, hr, hk, termsOf, List.map_append, List.append_nil]
        rw [if_neg (by omega)]
        simp only [termsOf] at c5 d5
        rw [c5, d5]
      · simp only [priceP, pricePs, Int.toNat_natCast, hr, Tr.sz, trsSz]; omega
      · simp only [Tr.sz, trsSz, List.length_append]; omega
    · cases hin2

/-- The path as it is followed, with saturating costs. -/
def addS (a b : Int) : Int := if Inf ≤ a ∨ Inf ≤ b ∨ Inf ≤ a + b then Inf else a + b
def pathL (arcs : List Arc) : Int → Int → List Int → Option (Int × Int)
  | s, c, [] => some (s, c)
  | s, c, i :: is => if i < 0 ∨ (arcs.length : Int) ≤ i ∨ (arcs.getD i.toNat default).f ≠ s then none else pathL arcs (arcs.getD i.toNat default).t (addS c (arcs.getD i.toNat default).cost) is
theorem PathR.follow {arcs : List Arc} (ha : ∀ a ∈ arcs, 0 ≤ a.cost) : ∀ {is : List Int} {s t w c : Int}, PathR arcs s is t w → 0 ≤ c → c ≤ Inf → pathL arcs s c is = some (t, min Inf (c + w)) ∧ 0 ≤ w
  | [], s, t, w, c, ⟨h1, h2⟩, k0, k => by subst h1 h2; simp only [pathL]; exact ⟨by congr 2; omega, by omega⟩
  | i :: is, s, t, w, c, ⟨q, h1, h2, h3, w', h4, h5⟩, k0, k => by
    subst h1
    have hq := ha (arcs.getD q default) (by simp [h2])
    simp only [pathL, Int.toNat_natCast]
    rw [if_neg (by omega)]
    have hc : 0 ≤ addS c (arcs.getD q default).cost ∧ addS c (arcs.getD q default).cost ≤ Inf := by unfold addS; simp only [Inf] at *; split <;> omega
    obtain ⟨e1, e2⟩ := PathR.follow ha h4 hc.1 hc.2
    rw [e1, h5]
    refine ⟨?_, by omega⟩
    congr 2
    unfold addS; simp only [Inf] at *; split <;> omega

/-- A derivation of the goal: its first kid is a derivation of the start over an accepting path. -/
theorem goal_law {n : Normal} {l : Lattice} (hp : FairP n l) {d : Tr} (hv : validD (hyper n l) (goalI n.nonterms l.states) d = true) :
    ∃ (m : Int) (k : Tr) (t : Nat) (w : Int), d = .mk m [k] ∧ 0 ≤ m ∧ m < (hyper n l).length ∧ t < l.final.length ∧ (hyper n l).getD m.toNat default = ⟨goalI n.nonterms l.states, [idxI n.nonterms l.states n.start 0 t], l.final.getD t default, -1, t⟩ ∧ l.final.getD t default < Inf ∧
      Corr n l (hyper n l) n.start 0 t k ∧ PathR l.arcs 0 (parseD (hyper n l) n.rules k).2 t w ∧ pathL l.arcs 0 0 (parseD (hyper n l) n.rules k).2 = some ((t : Int), min Inf w) ∧
      (valD (hyper n l) d).1 = min Inf (priceP n.rules (parseD (hyper n l) n.rules k).1 + addS (min Inf w) (l.final.getD t default)) := by
  have hst := hp.st
  have hnf := hp.nfin
  have hstart := hp.start
  obtain ⟨m, ks⟩ := d
  simp only [validD, Bool.and_eq_true, decide_eq_true_eq] at hv
  obtain ⟨⟨⟨m1, m2⟩, h1, h2⟩, h3⟩ := hv
  obtain ⟨e, he⟩ : ∃ e, (hyper n l).getD m.toNat default = e := ⟨_, rfl⟩
  rw [he] at h1 h2 h3
  have hin : e ∈ hyper n l := by rw [← he]; simp [show m.toNat < (hyper n l).length by omega]
  have hg : ∃ t : Nat, t < l.final.length ∧ e = ⟨goalI n.nonterms l.states, [idxI n.nonterms l.states n.start 0 t], l.final.getD t default, -1, t⟩ ∧ l.final.getD t default < Inf := by
    unfold hyper at hin
    rcases List.mem_append.1 hin with hin | hin
    · exfalso
      unfold allL at hin
      simp only [List.mem_flatMap, List.mem_range] at hin
      obtain ⟨s', hs', hin⟩ := hin
      unfold rowL at hin
      rw [List.mem_flatMap] at hin
      obtain ⟨u, hu, hin⟩ := hin
      rw [List.mem_iff_getElem] at hu
      obtain ⟨j, hj, rfl⟩ := hu
      simp only [List.length_drop, List.length_range] at hj
      rw [List.getElem_drop, List.getElem_range] at hin
      unfold spanE at hin
      rw [mem_isort] at hin
      simp only [spanL, List.mem_flatMap, List.mem_range] at hin
      obtain ⟨i, hil, hin⟩ := hin
      have e1 := inst_head hin
      have hr := hp.head (n.rules.getD i default) (by simp [hil])
      have i2 : isItem n.nonterms l.states (n.rules.getD i default).head s' ((s' + j : Nat) : Int) := by unfold isItem; omega
      have := idx_lt hp.fit.sm i2
      rw [← idx_eq (by omega)] at this
      omega
    · exact finL_head hin
  obtain ⟨t, ht, rfl, hc⟩ := hg
  simp only [List.length_cons, List.length_nil] at h2
  obtain ⟨k, rfl⟩ : ∃ k, ks = [k] := by
    match ks, h2 with
    | [k], _ => exact ⟨k, rfl⟩
  simp only [validDs, Bool.and_true] at h3
  have hco := corr hp k.sz k n.start 0 t (Nat.le_refl _) (by unfold isItem; omega) h3
  obtain ⟨w, w0, hw, hcost⟩ := hco.path
  have hf := hp.fin (l.final.getD t default) (by simp [ht])
  have hfo := (hw.follow (fun a ha => (hp.arc a ha).2.2.2.2.2.1) (c := 0) (by omega) (by simp only [Inf]; omega)).1
  rw [Int.zero_add] at hfo
  refine ⟨m, k, t, w, rfl, m1, m2, ht, he, hc, hco, hw, hfo, ?_⟩
  have hpr := hco.price.1
  simp only [valD, valDs, he, comb1, hcost]
  unfold addS
  simp only [Inf] at *
  split <;> omega
end Go.Proofs
set_option maxRecDepth 100000
set_option linter.unusedVariables false

namespace Go.Proofs
open Go.DM

-- emendate/emendatelaw39.ItemsDerivationIsParse
def d7r0 : List RO := [
  ⟨.box (.tmp 0), (some 3), none, [], none⟩,
  ⟨.box (.tmp 1), (some 4), none, [], none⟩,
  ⟨.box (.tmp 2), (some 5), none, [], none⟩,
  ⟨.mov (.con (.v (.bool false))), (some 6), none, [], none⟩]
def d7r1 : List RO := [
  ⟨.call 9 [], (some 17), none, [], none⟩,
  ⟨.un .not (.tmp 17), (some 18), none, [0], none⟩]
def d7r2 : List RO := [
  ⟨.mov (.con (.v (.bool false))), (some 6), none, [], none⟩]
def d7r3 : List RO := [
  ⟨.load 4 true (.tmp 3), (some 19), none, [], none⟩,
  ⟨.load 3 true (.tmp 4), (some 20), none, [], none⟩,
  ⟨.call 10 [(.tmp 19), (.tmp 20)], (some 21), none, [0, 1], none⟩,
  ⟨.un .not (.tmp 21), (some 22), none, [2], none⟩,
  ⟨.mov (.tmp 22), (some 23), none, [3, 2], none⟩,
  ⟨.load 2 true (.tmp 5), (some 24), (some (23, false)), [4], none⟩,
  ⟨.call 20 [(.tmp 24)], (some 25), (some (23, false)), [5, 4, 4], none⟩,
  ⟨.bin .gtr (.tmp 25) (.con (.v (.int .i64 60))), (some 26), (some (23, false)), [6, 4], none⟩,
  ⟨.pick (.tmp 23) (.con (.v (.bool true))) (.tmp 26), (some 27), none, [4, 7], none⟩]
def d7r4 : List RO := [
  ⟨.mov (.con (.v (.bool true))), (some 6), none, [], none⟩]
def d7r5 : List RO := [
  ⟨.load 4 true (.tmp 3), (some 28), none, [], none⟩,
  ⟨.load 3 true (.tmp 4), (some 29), none, [], none⟩,
  ⟨.call 11 [(.tmp 28), (.tmp 29)], (some 30), none, [0, 1], none⟩,
  ⟨.load 4 true (.tmp 3), (some 31), none, [], none⟩,
  ⟨.load 3 true (.tmp 4), (some 32), none, [], none⟩,
  ⟨.call 12 [(.tmp 31), (.tmp 32)], (some 33), none, [3, 4, 2], none⟩,
  ⟨.alloc [(.v (.int .i64 0)), .nil0], (some 7), none, [], none⟩,
  ⟨.alloc [(.v (.int .i64 0)), .nil0], (some 8), none, [], none⟩,
  ⟨.store 2 (.tmp 7) (.tmp 30), none, none, [6, 2, 5, 0, 1, 2, 6, 7], none⟩,
  ⟨.store 2 (.tmp 8) (.tmp 33), none, none, [7, 5, 8, 0, 1, 2, 3, 4, 5, 6, 7, 8], none⟩]
def d7r6 : List RO := [
  ⟨.addOff 0 (.tmp 7), (some 34), none, [], none⟩,
  ⟨.load 1 false (.tmp 34), (some 35), none, [0], none⟩,
  ⟨.addOff 0 (.tmp 8), (some 36), none, [], none⟩,
  ⟨.load 1 false (.tmp 36), (some 37), none, [2], none⟩,
  ⟨.bin .neq (.tmp 35) (.tmp 37), (some 38), none, [1, 3], none⟩,
  ⟨.mov (.tmp 38), (some 39), none, [4], none⟩,
  ⟨.addOff 1 (.tmp 7), (some 40), (some (39, false)), [5], none⟩,
  ⟨.load 1 false (.tmp 40), (some 41), (some (39, false)), [6, 5], none⟩,
  ⟨.addOff 1 (.tmp 8), (some 42), (some (39, false)), [5], none⟩,
  ⟨.load 1 false (.tmp 42), (some 43), (some (39, false)), [8, 5], none⟩,
  ⟨.call 13 [(.tmp 41), (.tmp 43)], (some 44), (some (39, false)), [7, 9, 5, 5], none⟩,
  ⟨.un .not (.tmp 44), (some 45), (some (39, false)), [10, 5], none⟩,
  ⟨.pick (.tmp 39) (.con (.v (.bool true))) (.tmp 45), (some 46), none, [5, 11], none⟩]
def d7r7 : List RO := [
  ⟨.mov (.con (.v (.bool false))), (some 6), none, [], none⟩]
def d7r8 : List RO := [
  ⟨.load 2 true (.tmp 7), (some 47), none, [], none⟩,
  ⟨.addOff 0 (.tmp 7), (some 48), none, [], none⟩,
  ⟨.load 1 false (.tmp 48), (some 49), none, [1], none⟩,
  ⟨.bin .sub (.tmp 49) (.con (.v (.int .i64 1))), (some 50), none, [2], none⟩,
  ⟨.load 2 true (.tmp 5), (some 51), none, [], none⟩,
  ⟨.call 21 [(.tmp 47), (.tmp 50), (.tmp 51)], (some 52), none, [0, 3, 4], none⟩,
  ⟨.un .not (.tmp 52), (some 53), none, [5], none⟩]
def d7r9 : List RO := [
  ⟨.mov (.con (.v (.bool true))), (some 6), none, [], none⟩]
def d7r10 : List RO := [
  ⟨.load 2 true (.tmp 7), (some 54), none, [], none⟩,
  ⟨.load 2 true (.tmp 5), (some 55), none, [], none⟩,
  ⟨.call 22 [(.tmp 54), (.tmp 55)], (some 56), none, [0, 1], none⟩,
  ⟨.field 0 1 false (.tmp 56), (some 57), none, [2], none⟩,
  ⟨.mov (.tmp 57), (some 9), none, [3, 2, 0, 1, 2, 3], none⟩]
def d7r11 : List RO := [
  ⟨.load 4 true (.tmp 3), (some 59), none, [], none⟩,
  ⟨.load 2 true (.tmp 7), (some 60), none, [], none⟩,
  ⟨.addOff 1 (.tmp 5), (some 61), none, [], none⟩,
  ⟨.load 1 false (.tmp 61), (some 62), none, [2], none⟩,
  ⟨.idxAddr 2 (.tmp 62) (.con (.v (.int .i64 0))), (some 63), none, [3], none⟩,
  ⟨.load 2 true (.tmp 63), (some 64), none, [4], none⟩,
  ⟨.call 23 [(.tmp 59), (.tmp 60), (.tmp 64)], (some 65), none, [0, 1, 5], none⟩,
  ⟨.mov (.tmp 65), (some 58), none, [6], none⟩,
  ⟨.extract 0 (.tmp 58), (some 66), none, [7], none⟩,
  ⟨.extract 1 (.tmp 58), (some 67), none, [7], none⟩,
  ⟨.alloc [(.v (.int .i64 0)), .nil0], (some 10), none, [], none⟩,
  ⟨.store 2 (.tmp 10) (.tmp 66), none, none, [10, 8, 6, 0, 1, 2, 3, 4, 5, 6, 7, 8, 10], none⟩,
  ⟨.mov (.tmp 67), (some 11), none, [9, 11, 0, 1, 2, 3, 4, 5, 6, 7, 8, 9, 10, 11], none⟩]
def d7r12 : List RO := [
  ⟨.load 4 true (.tmp 3), (some 68), none, [], none⟩,
  ⟨.addOff 2 (.tmp 3), (some 69), none, [], none⟩,
  ⟨.load 1 false (.tmp 69), (some 70), none, [1], none⟩,
  ⟨.load 2 true (.tmp 10), (some 71), none, [], none⟩,
  ⟨.call 24 [(.tmp 68), (.tmp 70), (.tmp 71)], (some 72), none, [0, 2, 3], none⟩,
  ⟨.un .not (.tmp 72), (some 73), none, [4], none⟩]
def d7r13 : List RO := [
  ⟨.mov (.con (.v (.bool false))), (some 6), none, [], none⟩]
def d7r14 : List RO := [
  ⟨.load 3 true (.tmp 4), (some 75), none, [], none⟩,
  ⟨.mov (.tmp 11), (some 76), none, [], none⟩,
  ⟨.call 25 [(.tmp 75), (.tmp 76)], (some 77), none, [0, 1], none⟩,
  ⟨.mov (.tmp 77), (some 74), none, [2], none⟩,
  ⟨.extract 0 (.tmp 74), (some 78), none, [3], none⟩,
  ⟨.extract 1 (.tmp 74), (some 79), none, [3], none⟩,
  ⟨.extract 2 (.tmp 74), (some 80), none, [3], none⟩,
  ⟨.mov (.tmp 78), (some 12), none, [4, 2, 0, 1, 2, 3, 4], none⟩,
  ⟨.mov (.tmp 79), (some 13), none, [5, 7, 0, 1, 2, 3, 4, 5, 7], none⟩,
  ⟨.mov (.tmp 80), (some 14), none, [6, 8, 0, 1, 2, 3, 4, 5, 6, 7, 8], none⟩]
def d7r15 : List RO := [
  ⟨.mov (.tmp 14), (some 81), none, [], none⟩,
  ⟨.un .not (.tmp 81), (some 82), none, [0], none⟩,
  ⟨.mov (.tmp 82), (some 83), none, [1], none⟩,
  ⟨.mov (.tmp 12), (some 84), (some (83, false)), [2], none⟩,
  ⟨.addOff 1 (.tmp 7), (some 85), (some (83, false)), [2], none⟩,
  ⟨.load 1 false (.tmp 85), (some 86), (some (83, false)), [4, 2], none⟩,
  ⟨.addOff 0 (.tmp 5), (some 87), (some (83, false)), [2], none⟩,
  ⟨.load 1 false (.tmp 87), (some 88), (some (83, false)), [6, 2], none⟩,
  ⟨.idxAddr 5 (.tmp 86) (.tmp 88), (some 89), (some (83, false)), [5, 7, 2], none⟩,
  ⟨.addOff 3 (.tmp 89), (some 90), (some (83, false)), [8, 2], none⟩,
  ⟨.arrAddr 2 1 (.tmp 90) (.con (.v (.int .i64 1))), (some 91), (some (83, false)), [9, 2], none⟩,
  ⟨.load 1 false (.tmp 91), (some 92), (some (83, false)), [10, 2], none⟩,
  ⟨.bin .neq (.tmp 84) (.tmp 92), (some 93), (some (83, false)), [3, 11, 2], none⟩,
  ⟨.pick (.tmp 83) (.con (.v (.bool true))) (.tmp 93), (some 94), none, [2, 12], none⟩]
def d7r16 : List RO := [
  ⟨.mov (.con (.v (.bool false))), (some 6), none, [], none⟩]
def d7r17 : List RO := [
  ⟨.mov (.con .nil0), (some 15), none, [], none⟩]
def d7r18 : List RO := [
  ⟨.mov (.con (.v (.int .i64 0))), (some 16), none, [], none⟩]
def d7r19 : List RO := [
  ⟨.mov (.tmp 16), (some 95), none, [], none⟩,
  ⟨.mov (.tmp 11), (some 96), none, [], none⟩,
  ⟨.len (.tmp 96), (some 97), none, [1], none⟩,
  ⟨.bin .lss (.tmp 95) (.tmp 97), (some 98), none, [0, 2], none⟩]
def d7r20 : List RO := [
  ⟨.mov (.tmp 15), (some 101), none, [], none⟩,
  ⟨.addOff 1 (.tmp 4), (some 102), none, [], none⟩,
  ⟨.load 1 false (.tmp 102), (some 103), none, [1], none⟩,
  ⟨.mov (.tmp 11), (some 104), none, [], none⟩,
  ⟨.mov (.tmp 16), (some 105), none, [], none⟩,
  ⟨.idxAddr 1 (.tmp 104) (.tmp 105), (some 106), none, [3, 4], none⟩,
  ⟨.load 1 false (.tmp 106), (some 107), none, [5], none⟩,
  ⟨.idxAddr 5 (.tmp 103) (.tmp 107), (some 108), none, [2, 6], none⟩,
  ⟨.addOff 2 (.tmp 108), (some 109), none, [7], none⟩,
  ⟨.load 1 false (.tmp 109), (some 110), none, [8], none⟩,
  ⟨.bslice 1 1 [(.v (.int .i64 0))] [(0, 1, (.tmp 110))], (some 111), none, [9], none⟩,
  ⟨.append 3 1 8 (.tmp 101) (.tmp 111), (some 112), none, [0, 10], none⟩,
  ⟨.mov (.tmp 112), (some 15), none, [11, 11, 0, 1, 2, 3, 4, 5, 6, 7, 8, 9, 10, 11], none⟩]
def d7r21 : List RO := [
  ⟨.mov (.tmp 16), (some 99), none, [], none⟩,
  ⟨.bin .add (.tmp 99) (.con (.v (.int .i64 1))), (some 100), none, [0], none⟩,
  ⟨.mov (.tmp 100), (some 16), none, [1, 0, 1], none⟩]
def d7r22 : List RO := [
  ⟨.mov (.tmp 15), (some 113), none, [], none⟩,
  ⟨.load 4 true (.tmp 3), (some 114), none, [], none⟩,
  ⟨.load 2 true (.tmp 10), (some 115), none, [], none⟩,
  ⟨.call 27 [(.tmp 114), (.tmp 115)], (some 116), none, [1, 2], none⟩,
  ⟨.call 26 [(.tmp 113), (.tmp 116)], (some 117), none, [0, 3, 3], none⟩,
  ⟨.mov (.tmp 117), (some 118), none, [4, 4], none⟩,
  ⟨.mov (.tmp 9), (some 119), (some (118, true)), [5], none⟩,
  ⟨.load 4 true (.tmp 3), (some 120), (some (118, true)), [5], none⟩,
  ⟨.load 2 true (.tmp 10), (some 121), (some (118, true)), [5], none⟩,
  ⟨.call 28 [(.tmp 120), (.tmp 121)], (some 122), (some (118, true)), [7, 8, 5, 5], none⟩,
  ⟨.mov (.tmp 13), (some 123), (some (118, true)), [5], none⟩,
  ⟨.bin .add (.tmp 122) (.tmp 123), (some 124), (some (118, true)), [9, 10, 5], none⟩,
  ⟨.minmax false (.con (.v (.int .i64 1099511627776))) (.tmp 124), (some 125), (some (118, true)), [11, 5], none⟩,
  ⟨.bin .eql (.tmp 119) (.tmp 125), (some 126), (some (118, true)), [6, 12, 5], none⟩,
  ⟨.pick (.tmp 118) (.tmp 126) (.con (.v (.bool false))), (some 127), none, [5, 13], none⟩,
  ⟨.mov (.tmp 127), (some 6), none, [14, 9, 0, 1, 2, 3, 4, 5, 6, 7, 8, 9, 10, 11, 12, 13, 14], none⟩]
def d7 : DC := (.seq (.region false d7r0)
  (.seq (.seq (.region false d7r1)
  (.cond (.tmp 18) (.seq (.region false d7r2)
  .ret)
  .skip))
  (.seq (.seq (.region false d7r3)
  (.cond (.tmp 27) (.seq (.region false d7r4)
  .ret)
  .skip))
  (.seq (.region true d7r5)
  (.seq (.seq (.region false d7r6)
  (.cond (.tmp 46) (.seq (.region false d7r7)
  .ret)
  .skip))
  (.seq (.seq (.region false d7r8)
  (.cond (.tmp 53) (.seq (.region false d7r9)
  .ret)
  .skip))
  (.seq (.region false d7r10)
  (.seq (.region true d7r11)
  (.seq (.seq (.region false d7r12)
  (.cond (.tmp 73) (.seq (.region false d7r13)
  .ret)
  .skip))
  (.seq (.region false d7r14)
  (.seq (.seq (.region false d7r15)
  (.cond (.tmp 94) (.seq (.region false d7r16)
  .ret)
  .skip))
  (.seq (.region false d7r17)
  (.seq (.seq (.region false d7r18)
  (.block 0 (.loop (.seq (.seq (.region false d7r19)
  (.cond (.tmp 98) .skip
  (.exit 0)))
  (.seq (.block 1 (.region true d7r20))
  (.region false d7r21))))))
  (.seq (.region false d7r22)
  .ret))))))))))))))
def d7res : List DRes := [.slot 6]
theorem c7 [Laid] : CodeOf Try.prog 7 128 d7 d7res := ⟨Try.f7, by kernel_rfl, by kernel_rfl, by kernel_rfl, by kernel_rfl, by kernel_rfl⟩
-- emendate/emendateref30.Size
def d20r0 : List RO := [
  ⟨.box (.tmp 0), (some 1), none, [], none⟩,
  ⟨.mov (.con (.v (.int .i64 0))), (some 2), none, [], none⟩]
def d20r1 : List RO := [
  ⟨.mov (.con (.v (.int .i64 1))), (some 3), none, [], none⟩]
def d20r2 : List RO := [
  ⟨.mov (.con (.v (.int .i64 0))), (some 4), none, [], none⟩]
def d20r3 : List RO := [
  ⟨.mov (.tmp 4), (some 5), none, [], none⟩,
  ⟨.addOff 1 (.tmp 1), (some 6), none, [], none⟩,
  ⟨.load 1 false (.tmp 6), (some 7), none, [1], none⟩,
  ⟨.len (.tmp 7), (some 8), none, [2], none⟩,
  ⟨.bin .lss (.tmp 5) (.tmp 8), (some 9), none, [0, 3], none⟩]
def d20r4 : List RO := [
  ⟨.mov (.tmp 3), (some 12), none, [], none⟩,
  ⟨.addOff 1 (.tmp 1), (some 13), none, [], none⟩,
  ⟨.load 1 false (.tmp 13), (some 14), none, [1], none⟩,
  ⟨.mov (.tmp 4), (some 15), none, [], none⟩,
  ⟨.idxAddr 2 (.tmp 14) (.tmp 15), (some 16), none, [2, 3], none⟩,
  ⟨.load 2 true (.tmp 16), (some 17), none, [4], none⟩,
  ⟨.call 20 [(.tmp 17)], (some 18), none, [5], none⟩,
  ⟨.bin .add (.tmp 12) (.tmp 18), (some 19), none, [0, 6], none⟩,
  ⟨.mov (.tmp 19), (some 3), none, [7, 6, 0, 1, 2, 3, 4, 5, 6, 7], none⟩]
def d20r5 : List RO := [
  ⟨.mov (.tmp 4), (some 10), none, [], none⟩,
  ⟨.bin .add (.tmp 10) (.con (.v (.int .i64 1))), (some 11), none, [0], none⟩,
  ⟨.mov (.tmp 11), (some 4), none, [1, 0, 1], none⟩]
def d20r6 : List RO := [
  ⟨.mov (.tmp 3), (some 20), none, [], none⟩,
  ⟨.mov (.tmp 20), (some 2), none, [0, 0], none⟩]
def d20 : DC := (.seq (.region false d20r0)
  (.seq (.region false d20r1)
  (.seq (.seq (.region false d20r2)
  (.block 0 (.loop (.seq (.seq (.region false d20r3)
  (.cond (.tmp 9) .skip
  (.exit 0)))
  (.seq (.block 1 (.region false d20r4))
  (.region false d20r5))))))
  (.seq (.region false d20r6)
  .ret))))
def d20res : List DRes := [.slot 2]
theorem c20 [Laid] : CodeOf Try.prog 20 21 d20 d20res := ⟨Try.f20, by kernel_rfl, by kernel_rfl, by kernel_rfl, by kernel_rfl, by kernel_rfl⟩
-- emendate/emendateref30.Valid
def d21r0 : List RO := [
  ⟨.box (.tmp 0), (some 3), none, [], none⟩,
  ⟨.box (.tmp 2), (some 5), none, [], none⟩,
  ⟨.mov (.con (.v (.bool false))), (some 6), none, [], none⟩]
def d21r1 : List RO := [
  ⟨.addOff 0 (.tmp 5), (some 8), none, [], none⟩,
  ⟨.load 1 false (.tmp 8), (some 9), none, [0], none⟩,
  ⟨.bin .lss (.tmp 9) (.con (.v (.int .i64 0))), (some 10), none, [1], none⟩,
  ⟨.mov (.tmp 10), (some 11), none, [2], none⟩,
  ⟨.addOff 0 (.tmp 5), (some 12), (some (11, false)), [3], none⟩,
  ⟨.load 1 false (.tmp 12), (some 13), (some (11, false)), [4, 3], none⟩,
  ⟨.addOff 1 (.tmp 3), (some 14), (some (11, false)), [3], none⟩,
  ⟨.load 1 false (.tmp 14), (some 15), (some (11, false)), [6, 3], none⟩,
  ⟨.len (.tmp 15), (some 16), (some (11, false)), [7, 3], none⟩,
  ⟨.bin .geq (.tmp 13) (.tmp 16), (some 17), (some (11, false)), [5, 8, 3], none⟩,
  ⟨.pick (.tmp 11) (.con (.v (.bool true))) (.tmp 17), (some 18), none, [3, 9], none⟩,
  ⟨.mov (.tmp 18), (some 19), none, [10, 3], none⟩,
  ⟨.addOff 1 (.tmp 3), (some 20), (some (19, false)), [11], none⟩,
  ⟨.load 1 false (.tmp 20), (some 21), (some (19, false)), [12, 11], none⟩,
  ⟨.addOff 0 (.tmp 5), (some 22), (some (19, false)), [11], none⟩,
  ⟨.load 1 false (.tmp 22), (some 23), (some (19, false)), [14, 11], none⟩,
  ⟨.idxAddr 5 (.tmp 21) (.tmp 23), (some 24), (some (19, false)), [13, 15, 11], none⟩,
  ⟨.addOff 0 (.tmp 24), (some 25), (some (19, false)), [16, 11], none⟩,
  ⟨.load 1 false (.tmp 25), (some 26), (some (19, false)), [17, 11], none⟩,
  ⟨.mov (.tmp 1), (some 27), (some (19, false)), [11], none⟩,
  ⟨.bin .neq (.tmp 26) (.tmp 27), (some 28), (some (19, false)), [18, 19, 11], none⟩,
  ⟨.pick (.tmp 19) (.con (.v (.bool true))) (.tmp 28), (some 29), none, [11, 20], none⟩,
  ⟨.mov (.tmp 29), (some 30), none, [21, 11], none⟩,
  ⟨.addOff 1 (.tmp 5), (some 31), (some (30, false)), [22], none⟩,
  ⟨.load 1 false (.tmp 31), (some 32), (some (30, false)), [23, 22], none⟩,
  ⟨.len (.tmp 32), (some 33), (some (30, false)), [24, 22], none⟩,
  ⟨.addOff 1 (.tmp 3), (some 34), (some (30, false)), [22], none⟩,
  ⟨.load 1 false (.tmp 34), (some 35), (some (30, false)), [26, 22], none⟩,
  ⟨.addOff 0 (.tmp 5), (some 36), (some (30, false)), [22], none⟩,
  ⟨.load 1 false (.tmp 36), (some 37), (some (30, false)), [28, 22], none⟩,
  ⟨.idxAddr 5 (.tmp 35) (.tmp 37), (some 38), (some (30, false)), [27, 29, 22], none⟩,
  ⟨.addOff 1 (.tmp 38), (some 39), (some (30, false)), [30, 22], none⟩,
  ⟨.load 1 false (.tmp 39), (some 40), (some (30, false)), [31, 22], none⟩,
  ⟨.len (.tmp 40), (some 41), (some (30, false)), [32, 22], none⟩,
  ⟨.bin .neq (.tmp 33) (.tmp 41), (some 42), (some (30, false)), [25, 33, 22], none⟩,
  ⟨.pick (.tmp 30) (.con (.v (.bool true))) (.tmp 42), (some 43), none, [22, 34], none⟩]
def d21r2 : List RO := [
  ⟨.mov (.con (.v (.bool false))), (some 6), none, [], none⟩]
def d21r3 : List RO := [
  ⟨.mov (.con (.v (.int .i64 0))), (some 7), none, [], none⟩]
def d21r4 : List RO := [
  ⟨.mov (.tmp 7), (some 44), none, [], none⟩,
  ⟨.addOff 1 (.tmp 5), (some 45), none, [], none⟩,
  ⟨.load 1 false (.tmp 45), (some 46), none, [1], none⟩,
  ⟨.len (.tmp 46), (some 47), none, [2], none⟩,
  ⟨.bin .lss (.tmp 44) (.tmp 47), (some 48), none, [0, 3], none⟩]
def d21r5 : List RO := [
  ⟨.load 2 true (.tmp 3), (some 51), none, [], none⟩,
  ⟨.addOff 1 (.tmp 3), (some 52), none, [], none⟩,
  ⟨.load 1 false (.tmp 52), (some 53), none, [1], none⟩,
  ⟨.addOff 0 (.tmp 5), (some 54), none, [], none⟩,
  ⟨.load 1 false (.tmp 54), (some 55), none, [3], none⟩,
  ⟨.idxAddr 5 (.tmp 53) (.tmp 55), (some 56), none, [2, 4], none⟩,
  ⟨.addOff 1 (.tmp 56), (some 57), none, [5], none⟩,
  ⟨.load 1 false (.tmp 57), (some 58), none, [6], none⟩,
  ⟨.mov (.tmp 7), (some 59), none, [], none⟩,
  ⟨.idxAddr 1 (.tmp 58) (.tmp 59), (some 60), none, [7, 8], none⟩,
  ⟨.load 1 false (.tmp 60), (some 61), none, [9], none⟩,
  ⟨.addOff 1 (.tmp 5), (some 62), none, [], none⟩,
  ⟨.load 1 false (.tmp 62), (some 63), none, [11], none⟩,
  ⟨.mov (.tmp 7), (some 64), none, [], none⟩,
  ⟨.idxAddr 2 (.tmp 63) (.tmp 64), (some 65), none, [12, 13], none⟩,
  ⟨.load 2 true (.tmp 65), (some 66), none, [14], none⟩,
  ⟨.call 21 [(.tmp 51), (.tmp 61), (.tmp 66)], (some 67), none, [0, 10, 15], none⟩,
  ⟨.un .not (.tmp 67), (some 68), none, [16], none⟩]
def d21r6 : List RO := [
  ⟨.mov (.con (.v (.bool false))), (some 6), none, [], none⟩]
def d21r7 : List RO := [
  ⟨.mov (.tmp 7), (some 49), none, [], none⟩,
  ⟨.bin .add (.tmp 49) (.con (.v (.int .i64 1))), (some 50), none, [0], none⟩,
  ⟨.mov (.tmp 50), (some 7), none, [1, 0, 1], none⟩]
def d21r8 : List RO := [
  ⟨.mov (.con (.v (.bool true))), (some 6), none, [], none⟩]
def d21 : DC := (.seq (.region false d21r0)
  (.seq (.seq (.region true d21r1)
  (.cond (.tmp 43) (.seq (.region false d21r2)
  .ret)
  .skip))
  (.seq (.seq (.region false d21r3)
  (.block 0 (.loop (.seq (.seq (.region false d21r4)
  (.cond (.tmp 48) .skip
  (.exit 0)))
  (.seq (.block 1 (.seq (.region true d21r5)
  (.cond (.tmp 68) (.seq (.region false d21r6)
  .ret)
  .skip)))
  (.region false d21r7))))))
  (.seq (.region false d21r8)
  .ret))))
def d21res : List DRes := [.slot 6]
theorem c21 [Laid] : CodeOf Try.prog 21 69 d21 d21res := ⟨Try.f21, by kernel_rfl, by kernel_rfl, by kernel_rfl, by kernel_rfl, by kernel_rfl⟩
-- emendate/emendateref30.Value
def d22r0 : List RO := [
  ⟨.box (.tmp 0), (some 2), none, [], none⟩,
  ⟨.box (.tmp 1), (some 3), none, [], none⟩,
  ⟨.alloc [(.v (.int .i64 0)), (.v (.int .i64 0))], (some 4), none, [], none⟩]
def d22r1 : List RO := [
  ⟨.mov (.con .nil0), (some 5), none, [], none⟩]
def d22r2 : List RO := [
  ⟨.mov (.con (.v (.int .i64 0))), (some 6), none, [], none⟩]
def d22r3 : List RO := [
  ⟨.mov (.tmp 6), (some 7), none, [], none⟩,
  ⟨.addOff 1 (.tmp 3), (some 8), none, [], none⟩,
  ⟨.load 1 false (.tmp 8), (some 9), none, [1], none⟩,
  ⟨.len (.tmp 9), (some 10), none, [2], none⟩,
  ⟨.bin .lss (.tmp 7) (.tmp 10), (some 11), none, [0, 3], none⟩]
def d22r4 : List RO := [
  ⟨.mov (.tmp 5), (some 14), none, [], none⟩,
  ⟨.load 2 true (.tmp 2), (some 15), none, [], none⟩,
  ⟨.addOff 1 (.tmp 3), (some 16), none, [], none⟩,
  ⟨.load 1 false (.tmp 16), (some 17), none, [2], none⟩,
  ⟨.mov (.tmp 6), (some 18), none, [], none⟩,
  ⟨.idxAddr 2 (.tmp 17) (.tmp 18), (some 19), none, [3, 4], none⟩,
  ⟨.load 2 true (.tmp 19), (some 20), none, [5], none⟩,
  ⟨.call 22 [(.tmp 15), (.tmp 20)], (some 21), none, [1, 6], none⟩,
  ⟨.bslice 1 2 [(.v (.int .i64 0)), (.v (.int .i64 0))] [(0, 2, (.tmp 21))], (some 22), none, [7], none⟩,
  ⟨.append 54 2 16 (.tmp 14) (.tmp 22), (some 23), none, [0, 8, 7], none⟩,
  ⟨.mov (.tmp 23), (some 5), none, [9, 9, 0, 1, 2, 3, 4, 5, 6, 7, 8, 9], none⟩]
def d22r5 : List RO := [
  ⟨.mov (.tmp 6), (some 12), none, [], none⟩,
  ⟨.bin .add (.tmp 12) (.con (.v (.int .i64 1))), (some 13), none, [0], none⟩,
  ⟨.mov (.tmp 13), (some 6), none, [1, 0, 1], none⟩]
def d22r6 : List RO := [
  ⟨.addOff 1 (.tmp 2), (some 24), none, [], none⟩,
  ⟨.load 1 false (.tmp 24), (some 25), none, [0], none⟩,
  ⟨.addOff 0 (.tmp 3), (some 26), none, [], none⟩,
  ⟨.load 1 false (.tmp 26), (some 27), none, [2], none⟩,
  ⟨.idxAddr 5 (.tmp 25) (.tmp 27), (some 28), none, [1, 3], none⟩,
  ⟨.addOff 2 (.tmp 28), (some 29), none, [4], none⟩,
  ⟨.load 1 false (.tmp 29), (some 30), none, [5], none⟩,
  ⟨.mov (.tmp 5), (some 31), none, [], none⟩,
  ⟨.call 41 [(.tmp 30), (.tmp 31)], (some 32), none, [6, 7], none⟩,
  ⟨.store 2 (.tmp 4) (.tmp 32), none, none, [8, 8, 0, 1, 2, 3, 4, 5, 6, 7, 8], none⟩]
def d22 : DC := (.seq (.region false d22r0)
  (.seq (.region false d22r1)
  (.seq (.seq (.region false d22r2)
  (.block 0 (.loop (.seq (.seq (.region false d22r3)
  (.cond (.tmp 11) .skip
  (.exit 0)))
  (.seq (.block 1 (.region true d22r4))
  (.region false d22r5))))))
  (.seq (.region false d22r6)
  .ret))))
def d22res : List DRes := [.cell 4 2 true]
theorem c22 [Laid] : CodeOf Try.prog 22 33 d22 d22res := ⟨Try.f22, by kernel_rfl, by kernel_rfl, by kernel_rfl, by kernel_rfl, by kernel_rfl⟩
-- emendate/emendateref39.Parse
def d23r0 : List RO := [
  ⟨.box (.tmp 0), (some 3), none, [], none⟩,
  ⟨.box (.tmp 1), (some 4), none, [], none⟩,
  ⟨.box (.tmp 2), (some 5), none, [], none⟩,
  ⟨.alloc [(.v (.int .i64 0)), .nil0], (some 6), none, [], none⟩,
  ⟨.mov (.con .nil0), (some 7), none, [], none⟩]
def d23r1 : List RO := [
  ⟨.addOff 1 (.tmp 4), (some 14), none, [], none⟩,
  ⟨.load 1 false (.tmp 14), (some 15), none, [0], none⟩,
  ⟨.addOff 0 (.tmp 5), (some 16), none, [], none⟩,
  ⟨.load 1 false (.tmp 16), (some 17), none, [2], none⟩,
  ⟨.idxAddr 5 (.tmp 15) (.tmp 17), (some 18), none, [1, 3], none⟩,
  ⟨.addOff 3 (.tmp 18), (some 19), none, [4], none⟩,
  ⟨.load 2 true (.tmp 19), (some 20), none, [5], none⟩,
  ⟨.alloc [(.v (.int .i64 0)), (.v (.int .i64 0))], (some 8), none, [], none⟩,
  ⟨.store 2 (.tmp 8) (.tmp 20), none, none, [7, 6, 0, 1, 2, 3, 4, 5, 6, 7], none⟩]
def d23r2 : List RO := [
  ⟨.arrAddr 2 1 (.tmp 8) (.con (.v (.int .i64 0))), (some 21), none, [], none⟩,
  ⟨.load 1 false (.tmp 21), (some 22), none, [0], none⟩,
  ⟨.build [(.v (.int .i64 0)), .nil0] [(0, 1, (.tmp 22))], (some 23), none, [1], none⟩,
  ⟨.alloc [(.v (.int .i64 0)), .nil0], (some 9), none, [], none⟩,
  ⟨.store 2 (.tmp 9) (.tmp 23), none, none, [3, 2, 0, 1, 2, 3], none⟩]
def d23r3 : List RO := [
  ⟨.mov (.con .nil0), (some 10), none, [], none⟩]
def d23r4 : List RO := [
  ⟨.addOff 3 (.tmp 3), (some 24), none, [], none⟩,
  ⟨.load 1 false (.tmp 24), (some 25), none, [0], none⟩,
  ⟨.arrAddr 2 1 (.tmp 8) (.con (.v (.int .i64 0))), (some 26), none, [], none⟩,
  ⟨.load 1 false (.tmp 26), (some 27), none, [2], none⟩,
  ⟨.idxAddr 6 (.tmp 25) (.tmp 27), (some 28), none, [1, 3], none⟩,
  ⟨.addOff 0 (.tmp 28), (some 29), none, [4], none⟩,
  ⟨.load 1 false (.tmp 29), (some 30), none, [5], none⟩,
  ⟨.bin .eql (.tmp 30) (.con (.v (.int .i64 2))), (some 31), none, [6], none⟩]
def d23r5 : List RO := [
  ⟨.mov (.tmp 10), (some 32), none, [], none⟩,
  ⟨.arrAddr 2 1 (.tmp 8) (.con (.v (.int .i64 1))), (some 33), none, [], none⟩,
  ⟨.load 1 false (.tmp 33), (some 34), none, [1], none⟩,
  ⟨.bslice 1 1 [(.v (.int .i64 0))] [(0, 1, (.tmp 34))], (some 35), none, [2], none⟩,
  ⟨.append 3 1 8 (.tmp 32) (.tmp 35), (some 36), none, [0, 3], none⟩,
  ⟨.mov (.tmp 36), (some 10), none, [4, 4, 0, 1, 2, 3, 4], none⟩]
def d23r6 : List RO := [
  ⟨.mov (.con (.v (.int .i64 0))), (some 11), none, [], none⟩]
def d23r7 : List RO := [
  ⟨.mov (.tmp 11), (some 37), none, [], none⟩,
  ⟨.addOff 1 (.tmp 5), (some 38), none, [], none⟩,
  ⟨.load 1 false (.tmp 38), (some 39), none, [1], none⟩,
  ⟨.len (.tmp 39), (some 40), none, [2], none⟩,
  ⟨.bin .lss (.tmp 37) (.tmp 40), (some 41), none, [0, 3], none⟩]
def d23r8 : List RO := [
  ⟨.load 4 true (.tmp 3), (some 45), none, [], none⟩,
  ⟨.load 2 true (.tmp 4), (some 46), none, [], none⟩,
  ⟨.addOff 1 (.tmp 5), (some 47), none, [], none⟩,
  ⟨.load 1 false (.tmp 47), (some 48), none, [2], none⟩,
  ⟨.mov (.tmp 11), (some 49), none, [], none⟩,
  ⟨.idxAddr 2 (.tmp 48) (.tmp 49), (some 50), none, [3, 4], none⟩,
  ⟨.load 2 true (.tmp 50), (some 51), none, [5], none⟩,
  ⟨.call 23 [(.tmp 45), (.tmp 46), (.tmp 51)], (some 52), none, [0, 1, 6], none⟩,
  ⟨.mov (.tmp 52), (some 44), none, [7], none⟩,
  ⟨.extract 0 (.tmp 44), (some 53), none, [8], none⟩,
  ⟨.extract 1 (.tmp 44), (some 54), none, [8], none⟩,
  ⟨.alloc [(.v (.int .i64 0)), .nil0], (some 12), none, [], none⟩,
  ⟨.store 2 (.tmp 12) (.tmp 53), none, none, [11, 9, 7, 0, 1, 2, 3, 4, 5, 6, 7, 8, 9, 11], none⟩,
  ⟨.mov (.tmp 54), (some 13), none, [10, 12, 0, 1, 2, 3, 4, 5, 6, 7, 8, 9, 10, 11, 12], none⟩]
def d23r9 : List RO := [
  ⟨.addOff 1 (.tmp 9), (some 55), none, [], none⟩,
  ⟨.load 1 false (.tmp 55), (some 56), none, [0], none⟩,
  ⟨.load 2 true (.tmp 12), (some 57), none, [], none⟩,
  ⟨.bslice 1 2 [(.v (.int .i64 0)), .nil0] [(0, 2, (.tmp 57))], (some 58), none, [2], none⟩,
  ⟨.append 58 2 32 (.tmp 56) (.tmp 58), (some 59), none, [1, 3], none⟩,
  ⟨.addOff 1 (.tmp 9), (some 60), none, [0, 1, 2, 3, 4], none⟩,
  ⟨.store 1 (.tmp 60) (.tmp 59), none, none, [5, 4, 4, 0, 1, 2, 3, 4], none⟩]
def d23r10 : List RO := [
  ⟨.mov (.tmp 10), (some 61), none, [], none⟩,
  ⟨.mov (.tmp 13), (some 62), none, [], none⟩,
  ⟨.append 3 1 8 (.tmp 61) (.tmp 62), (some 63), none, [0, 1], none⟩,
  ⟨.mov (.tmp 63), (some 10), none, [2, 2, 0, 1, 2], none⟩]
def d23r11 : List RO := [
  ⟨.mov (.tmp 11), (some 42), none, [], none⟩,
  ⟨.bin .add (.tmp 42) (.con (.v (.int .i64 1))), (some 43), none, [0], none⟩,
  ⟨.mov (.tmp 43), (some 11), none, [1, 0, 1], none⟩]
def d23r12 : List RO := [
  ⟨.load 2 true (.tmp 9), (some 64), none, [], none⟩,
  ⟨.mov (.tmp 10), (some 65), none, [], none⟩,
  ⟨.store 2 (.tmp 6) (.tmp 64), none, none, [0, 0], none⟩,
  ⟨.mov (.tmp 65), (some 7), none, [1, 2, 0, 1, 2], none⟩]
def d23 : DC := (.seq (.region false d23r0)
  (.seq (.region false d23r1)
  (.seq (.region false d23r2)
  (.seq (.region false d23r3)
  (.seq (.seq (.region false d23r4)
  (.cond (.tmp 31) (.region false d23r5)
  .skip))
  (.seq (.seq (.region false d23r6)
  (.block 0 (.loop (.seq (.seq (.region false d23r7)
  (.cond (.tmp 41) .skip
  (.exit 0)))
  (.seq (.block 1 (.seq (.region true d23r8)
  (.seq (.region false d23r9)
  (.region false d23r10))))
  (.region false d23r11))))))
  (.seq (.region false d23r12)
  .ret)))))))
def d23res : List DRes := [.cell 6 2 true, .slot 7]
theorem c23 [Laid] : CodeOf Try.prog 23 66 d23 d23res := ⟨Try.f23, by kernel_rfl, by kernel_rfl, by kernel_rfl, by kernel_rfl, by kernel_rfl⟩
-- emendate/emendateref24.ValidParse
def d24r0 : List RO := [
  ⟨.box (.tmp 0), (some 3), none, [], none⟩,
  ⟨.box (.tmp 2), (some 5), none, [], none⟩,
  ⟨.mov (.con (.v (.bool false))), (some 6), none, [], none⟩]
def d24r1 : List RO := [
  ⟨.addOff 0 (.tmp 5), (some 9), none, [], none⟩,
  ⟨.load 1 false (.tmp 9), (some 10), none, [0], none⟩,
  ⟨.bin .lss (.tmp 10) (.con (.v (.int .i64 0))), (some 11), none, [1], none⟩,
  ⟨.mov (.tmp 11), (some 12), none, [2], none⟩,
  ⟨.addOff 0 (.tmp 5), (some 13), (some (12, false)), [3], none⟩,
  ⟨.load 1 false (.tmp 13), (some 14), (some (12, false)), [4, 3], none⟩,
  ⟨.addOff 3 (.tmp 3), (some 15), (some (12, false)), [3], none⟩,
  ⟨.load 1 false (.tmp 15), (some 16), (some (12, false)), [6, 3], none⟩,
  ⟨.len (.tmp 16), (some 17), (some (12, false)), [7, 3], none⟩,
  ⟨.bin .geq (.tmp 14) (.tmp 17), (some 18), (some (12, false)), [5, 8, 3], none⟩,
  ⟨.pick (.tmp 12) (.con (.v (.bool true))) (.tmp 18), (some 19), none, [3, 9], none⟩,
  ⟨.mov (.tmp 19), (some 20), none, [10, 3], none⟩,
  ⟨.addOff 3 (.tmp 3), (some 21), (some (20, false)), [11], none⟩,
  ⟨.load 1 false (.tmp 21), (some 22), (some (20, false)), [12, 11], none⟩,
  ⟨.addOff 0 (.tmp 5), (some 23), (some (20, false)), [11], none⟩,
  ⟨.load 1 false (.tmp 23), (some 24), (some (20, false)), [14, 11], none⟩,
  ⟨.idxAddr 6 (.tmp 22) (.tmp 24), (some 25), (some (20, false)), [13, 15, 11], none⟩,
  ⟨.addOff 1 (.tmp 25), (some 26), (some (20, false)), [16, 11], none⟩,
  ⟨.load 1 false (.tmp 26), (some 27), (some (20, false)), [17, 11], none⟩,
  ⟨.mov (.tmp 1), (some 28), (some (20, false)), [11], none⟩,
  ⟨.bin .neq (.tmp 27) (.tmp 28), (some 29), (some (20, false)), [18, 19, 11], none⟩,
  ⟨.pick (.tmp 20) (.con (.v (.bool true))) (.tmp 29), (some 30), none, [11, 20], none⟩]
def d24r2 : List RO := [
  ⟨.mov (.con (.v (.bool false))), (some 6), none, [], none⟩]
def d24r3 : List RO := [
  ⟨.addOff 3 (.tmp 3), (some 31), none, [], none⟩,
  ⟨.load 1 false (.tmp 31), (some 32), none, [0], none⟩,
  ⟨.addOff 0 (.tmp 5), (some 33), none, [], none⟩,
  ⟨.load 1 false (.tmp 33), (some 34), none, [2], none⟩,
  ⟨.idxAddr 6 (.tmp 32) (.tmp 34), (some 35), none, [1, 3], none⟩,
  ⟨.load 6 true (.tmp 35), (some 36), none, [4], none⟩,
  ⟨.call 42 [(.tmp 36)], (some 37), none, [5], none⟩,
  ⟨.mov (.tmp 37), (some 7), none, [6, 6, 0, 1, 2, 3, 4, 5, 6], none⟩]
def d24r4 : List RO := [
  ⟨.addOff 1 (.tmp 5), (some 38), none, [], none⟩,
  ⟨.load 1 false (.tmp 38), (some 39), none, [0], none⟩,
  ⟨.len (.tmp 39), (some 40), none, [1], none⟩,
  ⟨.mov (.tmp 7), (some 41), none, [], none⟩,
  ⟨.len (.tmp 41), (some 42), none, [3], none⟩,
  ⟨.bin .neq (.tmp 40) (.tmp 42), (some 43), none, [2, 4], none⟩]
def d24r5 : List RO := [
  ⟨.mov (.con (.v (.bool false))), (some 6), none, [], none⟩]
def d24r6 : List RO := [
  ⟨.mov (.con (.v (.int .i64 0))), (some 8), none, [], none⟩]
def d24r7 : List RO := [
  ⟨.mov (.tmp 8), (some 44), none, [], none⟩,
  ⟨.mov (.tmp 7), (some 45), none, [], none⟩,
  ⟨.len (.tmp 45), (some 46), none, [1], none⟩,
  ⟨.bin .lss (.tmp 44) (.tmp 46), (some 47), none, [0, 2], none⟩]
def d24r8 : List RO := [
  ⟨.load 4 true (.tmp 3), (some 50), none, [], none⟩,
  ⟨.mov (.tmp 7), (some 51), none, [], none⟩,
  ⟨.mov (.tmp 8), (some 52), none, [], none⟩,
  ⟨.idxAddr 1 (.tmp 51) (.tmp 52), (some 53), none, [1, 2], none⟩,
  ⟨.load 1 false (.tmp 53), (some 54), none, [3], none⟩,
  ⟨.addOff 1 (.tmp 5), (some 55), none, [], none⟩,
  ⟨.load 1 false (.tmp 55), (some 56), none, [5], none⟩,
  ⟨.mov (.tmp 8), (some 57), none, [], none⟩,
  ⟨.idxAddr 2 (.tmp 56) (.tmp 57), (some 58), none, [6, 7], none⟩,
  ⟨.load 2 true (.tmp 58), (some 59), none, [8], none⟩,
  ⟨.call 24 [(.tmp 50), (.tmp 54), (.tmp 59)], (some 60), none, [0, 4, 9], none⟩,
  ⟨.un .not (.tmp 60), (some 61), none, [10], none⟩]
def d24r9 : List RO := [
  ⟨.mov (.con (.v (.bool false))), (some 6), none, [], none⟩]
def d24r10 : List RO := [
  ⟨.mov (.tmp 8), (some 48), none, [], none⟩,
  ⟨.bin .add (.tmp 48) (.con (.v (.int .i64 1))), (some 49), none, [0], none⟩,
  ⟨.mov (.tmp 49), (some 8), none, [1, 0, 1], none⟩]
def d24r11 : List RO := [
  ⟨.mov (.con (.v (.bool true))), (some 6), none, [], none⟩]
def d24 : DC := (.seq (.region false d24r0)
  (.seq (.seq (.region false d24r1)
  (.cond (.tmp 30) (.seq (.region false d24r2)
  .ret)
  .skip))
  (.seq (.region false d24r3)
  (.seq (.seq (.region false d24r4)
  (.cond (.tmp 43) (.seq (.region false d24r5)
  .ret)
  .skip))
  (.seq (.seq (.region false d24r6)
  (.block 0 (.loop (.seq (.seq (.region false d24r7)
  (.cond (.tmp 47) .skip
  (.exit 0)))
  (.seq (.block 1 (.seq (.region true d24r8)
  (.cond (.tmp 61) (.seq (.region false d24r9)
  .ret)
  .skip)))
  (.region false d24r10))))))
  (.seq (.region false d24r11)
  .ret))))))
def d24res : List DRes := [.slot 6]
theorem c24 [Laid] : CodeOf Try.prog 24 62 d24 d24res := ⟨Try.f24, by kernel_rfl, by kernel_rfl, by kernel_rfl, by kernel_rfl, by kernel_rfl⟩
-- emendate/emendateref37.Path
def d25r0 : List RO := [
  ⟨.box (.tmp 0), (some 2), none, [], none⟩,
  ⟨.mov (.con (.v (.int .i64 0))), (some 4), none, [], none⟩,
  ⟨.mov (.con (.v (.int .i64 0))), (some 5), none, [1], none⟩,
  ⟨.mov (.con (.v (.bool false))), (some 6), none, [2], none⟩]
def d25r1 : List RO := [
  ⟨.mov (.con (.v (.int .i64 0))), (some 7), none, [], none⟩]
def d25r2 : List RO := [
  ⟨.mov (.con (.v (.int .i64 0))), (some 8), none, [], none⟩]
def d25r3 : List RO := [
  ⟨.mov (.con (.v (.int .i64 0))), (some 9), none, [], none⟩]
def d25r4 : List RO := [
  ⟨.mov (.tmp 9), (some 10), none, [], none⟩,
  ⟨.mov (.tmp 1), (some 11), none, [], none⟩,
  ⟨.len (.tmp 11), (some 12), none, [1], none⟩,
  ⟨.bin .lss (.tmp 10) (.tmp 12), (some 13), none, [0, 2], none⟩]
def d25r5 : List RO := [
  ⟨.mov (.tmp 1), (some 16), none, [], none⟩,
  ⟨.mov (.tmp 9), (some 17), none, [], none⟩,
  ⟨.idxAddr 1 (.tmp 16) (.tmp 17), (some 18), none, [0, 1], none⟩,
  ⟨.load 1 false (.tmp 18), (some 19), none, [2], none⟩,
  ⟨.bin .lss (.tmp 19) (.con (.v (.int .i64 0))), (some 20), none, [3], none⟩,
  ⟨.mov (.tmp 20), (some 21), none, [4], none⟩,
  ⟨.mov (.tmp 1), (some 22), (some (21, false)), [5], none⟩,
  ⟨.mov (.tmp 9), (some 23), (some (21, false)), [5], none⟩,
  ⟨.idxAddr 1 (.tmp 22) (.tmp 23), (some 24), (some (21, false)), [6, 7, 5], none⟩,
  ⟨.load 1 false (.tmp 24), (some 25), (some (21, false)), [8, 5], none⟩,
  ⟨.addOff 1 (.tmp 2), (some 26), (some (21, false)), [5], none⟩,
  ⟨.load 1 false (.tmp 26), (some 27), (some (21, false)), [10, 5], none⟩,
  ⟨.len (.tmp 27), (some 28), (some (21, false)), [11, 5], none⟩,
  ⟨.bin .geq (.tmp 25) (.tmp 28), (some 29), (some (21, false)), [9, 12, 5], none⟩,
  ⟨.pick (.tmp 21) (.con (.v (.bool true))) (.tmp 29), (some 30), none, [5, 13], none⟩,
  ⟨.mov (.tmp 30), (some 31), none, [14, 5], none⟩,
  ⟨.addOff 1 (.tmp 2), (some 32), (some (31, false)), [15], none⟩,
  ⟨.load 1 false (.tmp 32), (some 33), (some (31, false)), [16, 15], none⟩,
  ⟨.mov (.tmp 1), (some 34), (some (31, false)), [15], none⟩,
  ⟨.mov (.tmp 9), (some 35), (some (31, false)), [15], none⟩,
  ⟨.idxAddr 1 (.tmp 34) (.tmp 35), (some 36), (some (31, false)), [18, 19, 15], none⟩,
  ⟨.load 1 false (.tmp 36), (some 37), (some (31, false)), [20, 15], none⟩,
  ⟨.idxAddr 5 (.tmp 33) (.tmp 37), (some 38), (some (31, false)), [17, 21, 15], none⟩,
  ⟨.addOff 0 (.tmp 38), (some 39), (some (31, false)), [22, 15], none⟩,
  ⟨.load 1 false (.tmp 39), (some 40), (some (31, false)), [23, 15], none⟩,
  ⟨.mov (.tmp 7), (some 41), (some (31, false)), [15], none⟩,
  ⟨.bin .neq (.tmp 40) (.tmp 41), (some 42), (some (31, false)), [24, 25, 15], none⟩,
  ⟨.pick (.tmp 31) (.con (.v (.bool true))) (.tmp 42), (some 43), none, [15, 26], none⟩]
def d25r6 : List RO := [
  ⟨.mov (.con (.v (.int .i64 0))), (some 4), none, [], none⟩,
  ⟨.mov (.con (.v (.int .i64 0))), (some 5), none, [0, 0], none⟩,
  ⟨.mov (.con (.v (.bool false))), (some 6), none, [1, 0, 1], none⟩]
def d25r7 : List RO := [
  ⟨.addOff 1 (.tmp 2), (some 44), none, [], none⟩,
  ⟨.load 1 false (.tmp 44), (some 45), none, [0], none⟩,
  ⟨.mov (.tmp 1), (some 46), none, [], none⟩,
  ⟨.mov (.tmp 9), (some 47), none, [], none⟩,
  ⟨.idxAddr 1 (.tmp 46) (.tmp 47), (some 48), none, [2, 3], none⟩,
  ⟨.load 1 false (.tmp 48), (some 49), none, [4], none⟩,
  ⟨.idxAddr 5 (.tmp 45) (.tmp 49), (some 50), none, [1, 5], none⟩,
  ⟨.addOff 1 (.tmp 50), (some 51), none, [6], none⟩,
  ⟨.load 1 false (.tmp 51), (some 52), none, [7], none⟩,
  ⟨.mov (.tmp 52), (some 7), none, [8, 0, 1, 2, 3, 4, 5, 6, 7, 8], none⟩]
def d25r8 : List RO := [
  ⟨.mov (.tmp 8), (some 53), none, [], none⟩,
  ⟨.addOff 1 (.tmp 2), (some 54), none, [], none⟩,
  ⟨.load 1 false (.tmp 54), (some 55), none, [1], none⟩,
  ⟨.mov (.tmp 1), (some 56), none, [], none⟩,
  ⟨.mov (.tmp 9), (some 57), none, [], none⟩,
  ⟨.idxAddr 1 (.tmp 56) (.tmp 57), (some 58), none, [3, 4], none⟩,
  ⟨.load 1 false (.tmp 58), (some 59), none, [5], none⟩,
  ⟨.idxAddr 5 (.tmp 55) (.tmp 59), (some 60), none, [2, 6], none⟩,
  ⟨.addOff 3 (.tmp 60), (some 61), none, [7], none⟩,
  ⟨.load 1 false (.tmp 61), (some 62), none, [8], none⟩,
  ⟨.call 43 [(.tmp 53), (.tmp 62)], (some 63), none, [0, 9], none⟩,
  ⟨.mov (.tmp 63), (some 8), none, [10, 10, 0, 1, 2, 3, 4, 5, 6, 7, 8, 9, 10], none⟩]
def d25r9 : List RO := [
  ⟨.mov (.tmp 9), (some 14), none, [], none⟩,
  ⟨.bin .add (.tmp 14) (.con (.v (.int .i64 1))), (some 15), none, [0], none⟩,
  ⟨.mov (.tmp 15), (some 9), none, [1, 0, 1], none⟩]
def d25r10 : List RO := [
  ⟨.addOff 2 (.tmp 2), (some 64), none, [], none⟩,
  ⟨.load 1 false (.tmp 64), (some 65), none, [0], none⟩,
  ⟨.mov (.tmp 7), (some 66), none, [], none⟩,
  ⟨.idxAddr 1 (.tmp 65) (.tmp 66), (some 67), none, [1, 2], none⟩,
  ⟨.load 1 false (.tmp 67), (some 68), none, [3], none⟩,
  ⟨.bin .geq (.tmp 68) (.con (.v (.int .i64 1099511627776))), (some 69), none, [4], none⟩]
def d25r11 : List RO := [
  ⟨.mov (.con (.v (.int .i64 0))), (some 4), none, [], none⟩,
  ⟨.mov (.con (.v (.int .i64 0))), (some 5), none, [0, 0], none⟩,
  ⟨.mov (.con (.v (.bool false))), (some 6), none, [1, 0, 1], none⟩]
def d25r12 : List RO := [
  ⟨.mov (.tmp 7), (some 70), none, [], none⟩,
  ⟨.mov (.tmp 8), (some 71), none, [], none⟩,
  ⟨.addOff 2 (.tmp 2), (some 72), none, [], none⟩,
  ⟨.load 1 false (.tmp 72), (some 73), none, [2], none⟩,
  ⟨.mov (.tmp 7), (some 74), none, [], none⟩,
  ⟨.idxAddr 1 (.tmp 73) (.tmp 74), (some 75), none, [3, 4], none⟩,
  ⟨.load 1 false (.tmp 75), (some 76), none, [5], none⟩,
  ⟨.call 43 [(.tmp 71), (.tmp 76)], (some 77), none, [1, 6], none⟩,
  ⟨.mov (.tmp 70), (some 4), none, [0, 7, 0], none⟩,
  ⟨.mov (.tmp 77), (some 5), none, [7, 8, 0, 1, 2, 3, 4, 5, 6, 7, 8], none⟩,
  ⟨.mov (.con (.v (.bool true))), (some 6), none, [9, 0, 1, 2, 3, 4, 5, 6, 7, 8, 9], none⟩]
def d25 : DC := (.seq (.region false d25r0)
  (.seq (.region false d25r1)
  (.seq (.region false d25r2)
  (.seq (.seq (.region false d25r3)
  (.block 0 (.loop (.seq (.seq (.region false d25r4)
  (.cond (.tmp 13) .skip
  (.exit 0)))
  (.seq (.block 1 (.seq (.seq (.region true d25r5)
  (.cond (.tmp 43) (.seq (.region false d25r6)
  .ret)
  .skip))
  (.seq (.region true d25r7)
  (.region true d25r8))))
  (.region false d25r9))))))
  (.seq (.seq (.region false d25r10)
  (.cond (.tmp 69) (.seq (.region false d25r11)
  .ret)
  .skip))
  (.seq (.region false d25r12)
  .ret))))))
def d25res : List DRes := [.slot 4, .slot 5, .slot 6]
theorem c25 [Laid] : CodeOf Try.prog 25 78 d25 d25res := ⟨Try.f25, by kernel_rfl, by kernel_rfl, by kernel_rfl, by kernel_rfl, by kernel_rfl⟩
-- emendate/emendateref27.SameInts
def d26r0 : List RO := [
  ⟨.mov (.con (.v (.bool false))), (some 4), none, [], none⟩]
def d26r1 : List RO := [
  ⟨.mov (.tmp 0), (some 6), none, [], none⟩,
  ⟨.len (.tmp 6), (some 7), none, [0], none⟩,
  ⟨.mov (.tmp 1), (some 8), none, [], none⟩,
  ⟨.len (.tmp 8), (some 9), none, [2], none⟩,
  ⟨.bin .neq (.tmp 7) (.tmp 9), (some 10), none, [1, 3], none⟩]
def d26r2 : List RO := [
  ⟨.mov (.con (.v (.bool false))), (some 4), none, [], none⟩]
def d26r3 : List RO := [
  ⟨.mov (.con (.v (.int .i64 0))), (some 5), none, [], none⟩]
def d26r4 : List RO := [
  ⟨.mov (.tmp 5), (some 11), none, [], none⟩,
  ⟨.mov (.tmp 0), (some 12), none, [], none⟩,
  ⟨.len (.tmp 12), (some 13), none, [1], none⟩,
  ⟨.bin .lss (.tmp 11) (.tmp 13), (some 14), none, [0, 2], none⟩]
def d26r5 : List RO := [
  ⟨.mov (.tmp 0), (some 17), none, [], none⟩,
  ⟨.mov (.tmp 5), (some 18), none, [], none⟩,
  ⟨.idxAddr 1 (.tmp 17) (.tmp 18), (some 19), none, [0, 1], none⟩,
  ⟨.load 1 false (.tmp 19), (some 20), none, [2], none⟩,
  ⟨.mov (.tmp 1), (some 21), none, [], none⟩,
  ⟨.mov (.tmp 5), (some 22), none, [], none⟩,
  ⟨.idxAddr 1 (.tmp 21) (.tmp 22), (some 23), none, [4, 5], none⟩,
  ⟨.load 1 false (.tmp 23), (some 24), none, [6], none⟩,
  ⟨.bin .neq (.tmp 20) (.tmp 24), (some 25), none, [3, 7], none⟩]
def d26r6 : List RO := [
  ⟨.mov (.con (.v (.bool false))), (some 4), none, [], none⟩]
def d26r7 : List RO := [
  ⟨.mov (.tmp 5), (some 15), none, [], none⟩,
  ⟨.bin .add (.tmp 15) (.con (.v (.int .i64 1))), (some 16), none, [0], none⟩,
  ⟨.mov (.tmp 16), (some 5), none, [1, 0, 1], none⟩]
def d26r8 : List RO := [
  ⟨.mov (.con (.v (.bool true))), (some 4), none, [], none⟩]
def d26 : DC := (.seq (.region false d26r0)
  (.seq (.seq (.region false d26r1)
  (.cond (.tmp 10) (.seq (.region false d26r2)
  .ret)
  .skip))
  (.seq (.seq (.region false d26r3)
  (.block 0 (.loop (.seq (.seq (.region false d26r4)
  (.cond (.tmp 14) .skip
  (.exit 0)))
  (.seq (.block 1 (.seq (.region true d26r5)
  (.cond (.tmp 25) (.seq (.region false d26r6)
  .ret)
  .skip)))
  (.region false d26r7))))))
  (.seq (.region false d26r8)
  .ret))))
def d26res : List DRes := [.slot 4]
theorem c26 [Laid] : CodeOf Try.prog 26 26 d26 d26res := ⟨Try.f26, by kernel_rfl, by kernel_rfl, by kernel_rfl, by kernel_rfl, by kernel_rfl⟩
-- emendate/emendateref24.Yield
def d27r0 : List RO := [
  ⟨.box (.tmp 0), (some 2), none, [], none⟩,
  ⟨.box (.tmp 1), (some 3), none, [], none⟩,
  ⟨.mov (.con .nil0), (some 4), none, [], none⟩]
def d27r1 : List RO := [
  ⟨.addOff 3 (.tmp 2), (some 8), none, [], none⟩,
  ⟨.load 1 false (.tmp 8), (some 9), none, [0], none⟩,
  ⟨.addOff 0 (.tmp 3), (some 10), none, [], none⟩,
  ⟨.load 1 false (.tmp 10), (some 11), none, [2], none⟩,
  ⟨.idxAddr 6 (.tmp 9) (.tmp 11), (some 12), none, [1, 3], none⟩,
  ⟨.load 6 true (.tmp 12), (some 13), none, [4], none⟩,
  ⟨.alloc [(.v (.int .i64 0)), (.v (.int .i64 0)), (.v (.int .i64 0)), (.v (.int .i64 0)), (.v (.int .i64 0)), (.v (.int .i64 0))], (some 5), none, [], none⟩,
  ⟨.store 6 (.tmp 5) (.tmp 13), none, none, [6, 5, 0, 1, 2, 3, 4, 5, 6], none⟩]
def d27r2 : List RO := [
  ⟨.addOff 0 (.tmp 5), (some 14), none, [], none⟩,
  ⟨.load 1 false (.tmp 14), (some 15), none, [0], none⟩,
  ⟨.bin .eql (.tmp 15) (.con (.v (.int .i64 2))), (some 16), none, [1], none⟩]
def d27r3 : List RO := [
  ⟨.addOff 2 (.tmp 5), (some 17), none, [], none⟩,
  ⟨.load 1 false (.tmp 17), (some 18), none, [0], none⟩,
  ⟨.bslice 1 1 [(.v (.int .i64 0))] [(0, 1, (.tmp 18))], (some 19), none, [1], none⟩,
  ⟨.mov (.tmp 19), (some 4), none, [2, 0, 1, 2], none⟩]
def d27r4 : List RO := [
  ⟨.mov (.con .nil0), (some 6), none, [], none⟩]
def d27r5 : List RO := [
  ⟨.mov (.con (.v (.int .i64 0))), (some 7), none, [], none⟩]
def d27r6 : List RO := [
  ⟨.mov (.tmp 7), (some 20), none, [], none⟩,
  ⟨.addOff 1 (.tmp 3), (some 21), none, [], none⟩,
  ⟨.load 1 false (.tmp 21), (some 22), none, [1], none⟩,
  ⟨.len (.tmp 22), (some 23), none, [2], none⟩,
  ⟨.bin .lss (.tmp 20) (.tmp 23), (some 24), none, [0, 3], none⟩]
def d27r7 : List RO := [
  ⟨.mov (.tmp 6), (some 27), none, [], none⟩,
  ⟨.load 4 true (.tmp 2), (some 28), none, [], none⟩,
  ⟨.addOff 1 (.tmp 3), (some 29), none, [], none⟩,
  ⟨.load 1 false (.tmp 29), (some 30), none, [2], none⟩,
  ⟨.mov (.tmp 7), (some 31), none, [], none⟩,
  ⟨.idxAddr 2 (.tmp 30) (.tmp 31), (some 32), none, [3, 4], none⟩,
  ⟨.load 2 true (.tmp 32), (some 33), none, [5], none⟩,
  ⟨.call 27 [(.tmp 28), (.tmp 33)], (some 34), none, [1, 6], none⟩,
  ⟨.append 3 1 8 (.tmp 27) (.tmp 34), (some 35), none, [0, 7, 7], none⟩,
  ⟨.mov (.tmp 35), (some 6), none, [8, 8, 0, 1, 2, 3, 4, 5, 6, 7, 8], none⟩]
def d27r8 : List RO := [
  ⟨.mov (.tmp 7), (some 25), none, [], none⟩,
  ⟨.bin .add (.tmp 25) (.con (.v (.int .i64 1))), (some 26), none, [0], none⟩,
  ⟨.mov (.tmp 26), (some 7), none, [1, 0, 1], none⟩]
def d27r9 : List RO := [
  ⟨.mov (.tmp 6), (some 36), none, [], none⟩,
  ⟨.mov (.tmp 36), (some 4), none, [0, 0], none⟩]
def d27 : DC := (.seq (.region false d27r0)
  (.seq (.region false d27r1)
  (.seq (.seq (.region false d27r2)
  (.cond (.tmp 16) (.seq (.region false d27r3)
  .ret)
  .skip))
  (.seq (.region false d27r4)
  (.seq (.seq (.region false d27r5)
  (.block 0 (.loop (.seq (.seq (.region false d27r6)
  (.cond (.tmp 24) .skip
  (.exit 0)))
  (.seq (.block 1 (.region true d27r7))
  (.region false d27r8))))))
  (.seq (.region false d27r9)
  .ret))))))
def d27res : List DRes := [.slot 4]
theorem c27 [Laid] : CodeOf Try.prog 27 37 d27 d27res := ⟨Try.f27, by kernel_rfl, by kernel_rfl, by kernel_rfl, by kernel_rfl, by kernel_rfl⟩
-- emendate/emendateref24.Price
def d28r0 : List RO := [
  ⟨.box (.tmp 0), (some 2), none, [], none⟩,
  ⟨.box (.tmp 1), (some 3), none, [], none⟩,
  ⟨.mov (.con (.v (.int .i64 0))), (some 4), none, [], none⟩]
def d28r1 : List RO := [
  ⟨.addOff 3 (.tmp 2), (some 7), none, [], none⟩,
  ⟨.load 1 false (.tmp 7), (some 8), none, [0], none⟩,
  ⟨.addOff 0 (.tmp 3), (some 9), none, [], none⟩,
  ⟨.load 1 false (.tmp 9), (some 10), none, [2], none⟩,
  ⟨.idxAddr 6 (.tmp 8) (.tmp 10), (some 11), none, [1, 3], none⟩,
  ⟨.addOff 4 (.tmp 11), (some 12), none, [4], none⟩,
  ⟨.load 1 false (.tmp 12), (some 13), none, [5], none⟩,
  ⟨.mov (.tmp 13), (some 5), none, [6, 0, 1, 2, 3, 4, 5, 6], none⟩]
def d28r2 : List RO := [
  ⟨.mov (.con (.v (.int .i64 0))), (some 6), none, [], none⟩]
def d28r3 : List RO := [
  ⟨.mov (.tmp 6), (some 14), none, [], none⟩,
  ⟨.addOff 1 (.tmp 3), (some 15), none, [], none⟩,
  ⟨.load 1 false (.tmp 15), (some 16), none, [1], none⟩,
  ⟨.len (.tmp 16), (some 17), none, [2], none⟩,
  ⟨.bin .lss (.tmp 14) (.tmp 17), (some 18), none, [0, 3], none⟩]
def d28r4 : List RO := [
  ⟨.mov (.tmp 5), (some 21), none, [], none⟩,
  ⟨.load 4 true (.tmp 2), (some 22), none, [], none⟩,
  ⟨.addOff 1 (.tmp 3), (some 23), none, [], none⟩,
  ⟨.load 1 false (.tmp 23), (some 24), none, [2], none⟩,
  ⟨.mov (.tmp 6), (some 25), none, [], none⟩,
  ⟨.idxAddr 2 (.tmp 24) (.tmp 25), (some 26), none, [3, 4], none⟩,
  ⟨.load 2 true (.tmp 26), (some 27), none, [5], none⟩,
  ⟨.call 28 [(.tmp 22), (.tmp 27)], (some 28), none, [1, 6], none⟩,
  ⟨.bin .add (.tmp 21) (.tmp 28), (some 29), none, [0, 7], none⟩,
  ⟨.mov (.tmp 29), (some 5), none, [8, 7, 0, 1, 2, 3, 4, 5, 6, 7, 8], none⟩]
def d28r5 : List RO := [
  ⟨.mov (.tmp 6), (some 19), none, [], none⟩,
  ⟨.bin .add (.tmp 19) (.con (.v (.int .i64 1))), (some 20), none, [0], none⟩,
  ⟨.mov (.tmp 20), (some 6), none, [1, 0, 1], none⟩]
def d28r6 : List RO := [
  ⟨.mov (.tmp 5), (some 30), none, [], none⟩,
  ⟨.mov (.tmp 30), (some 4), none, [0, 0], none⟩]
def d28 : DC := (.seq (.region false d28r0)
  (.seq (.region false d28r1)
  (.seq (.seq (.region false d28r2)
  (.block 0 (.loop (.seq (.seq (.region false d28r3)
  (.cond (.tmp 18) .skip
  (.exit 0)))
  (.seq (.block 1 (.region true d28r4))
  (.region false d28r5))))))
  (.seq (.region false d28r6)
  .ret))))
def d28res : List DRes := [.slot 4]
theorem c28 [Laid] : CodeOf Try.prog 28 31 d28 d28res := ⟨Try.f28, by kernel_rfl, by kernel_rfl, by kernel_rfl, by kernel_rfl, by kernel_rfl⟩
-- emendate/emendateref29.Combine
def d41r0 : List RO := [
  ⟨.alloc [(.v (.int .i64 0)), (.v (.int .i64 0))], (some 4), none, [], none⟩]
def d41r1 : List RO := [
  ⟨.mov (.tmp 0), (some 8), none, [], none⟩,
  ⟨.mov (.tmp 8), (some 5), none, [0, 0], none⟩,
  ⟨.mov (.con (.v (.int .i64 1))), (some 6), none, [1, 0, 1], none⟩]
def d41r2 : List RO := [
  ⟨.mov (.con (.v (.int .i64 0))), (some 7), none, [], none⟩]
def d41r3 : List RO := [
  ⟨.mov (.tmp 7), (some 9), none, [], none⟩,
  ⟨.mov (.tmp 1), (some 10), none, [], none⟩,
  ⟨.len (.tmp 10), (some 11), none, [1], none⟩,
  ⟨.bin .lss (.tmp 9) (.tmp 11), (some 12), none, [0, 2], none⟩]
def d41r4 : List RO := [
  ⟨.mov (.tmp 5), (some 15), none, [], none⟩,
  ⟨.mov (.tmp 1), (some 16), none, [], none⟩,
  ⟨.mov (.tmp 7), (some 17), none, [], none⟩,
  ⟨.idxAddr 2 (.tmp 16) (.tmp 17), (some 18), none, [1, 2], none⟩,
  ⟨.addOff 0 (.tmp 18), (some 19), none, [3], none⟩,
  ⟨.load 1 false (.tmp 19), (some 20), none, [4], none⟩,
  ⟨.bin .add (.tmp 15) (.tmp 20), (some 21), none, [0, 5], none⟩,
  ⟨.minmax false (.tmp 21) (.con (.v (.int .i64 1099511627776))), (some 22), none, [6], none⟩,
  ⟨.mov (.tmp 6), (some 23), none, [], none⟩,
  ⟨.mov (.tmp 1), (some 24), none, [], none⟩,
  ⟨.mov (.tmp 7), (some 25), none, [], none⟩,
  ⟨.idxAddr 2 (.tmp 24) (.tmp 25), (some 26), none, [9, 10], none⟩,
  ⟨.addOff 1 (.tmp 26), (some 27), none, [11], none⟩,
  ⟨.load 1 false (.tmp 27), (some 28), none, [12], none⟩,
  ⟨.bin .add (.tmp 23) (.tmp 28), (some 29), none, [8, 13], none⟩,
  ⟨.minmax false (.tmp 29) (.con (.v (.int .i64 1099511627776))), (some 30), none, [14], none⟩,
  ⟨.mov (.tmp 22), (some 5), none, [7, 0, 1, 2, 3, 4, 5, 6, 7], none⟩,
  ⟨.mov (.tmp 30), (some 6), none, [15, 16, 0, 1, 2, 3, 4, 5, 6, 7, 8, 9, 10, 11, 12, 13, 14, 15, 16], none⟩]
def d41r5 : List RO := [
  ⟨.mov (.tmp 7), (some 13), none, [], none⟩,
  ⟨.bin .add (.tmp 13) (.con (.v (.int .i64 1))), (some 14), none, [0], none⟩,
  ⟨.mov (.tmp 14), (some 7), none, [1, 0, 1], none⟩]
def d41r6 : List RO := [
  ⟨.mov (.tmp 5), (some 31), none, [], none⟩,
  ⟨.bin .geq (.tmp 31) (.con (.v (.int .i64 1099511627776))), (some 32), none, [0], none⟩]
def d41r7 : List RO := [
  ⟨.build [(.v (.int .i64 0)), (.v (.int .i64 0))] [(0, 1, (.con (.v (.int .i64 1099511627776))))], (some 33), none, [], none⟩,
  ⟨.store 2 (.tmp 4) (.tmp 33), none, none, [0, 0], none⟩]
def d41r8 : List RO := [
  ⟨.mov (.tmp 5), (some 34), none, [], none⟩,
  ⟨.mov (.tmp 6), (some 35), none, [], none⟩,
  ⟨.build [(.v (.int .i64 0)), (.v (.int .i64 0))] [(0, 1, (.tmp 34)), (1, 1, (.tmp 35))], (some 36), none, [0, 1], none⟩,
  ⟨.store 2 (.tmp 4) (.tmp 36), none, none, [2, 0, 1, 2], none⟩]
def d41 : DC := (.seq (.region false d41r0)
  (.seq (.region false d41r1)
  (.seq (.seq (.region false d41r2)
  (.block 0 (.loop (.seq (.seq (.region false d41r3)
  (.cond (.tmp 12) .skip
  (.exit 0)))
  (.seq (.block 1 (.region true d41r4))
  (.region false d41r5))))))
  (.seq (.seq (.region false d41r6)
  (.cond (.tmp 32) (.seq (.region false d41r7)
  .ret)
  .skip))
  (.seq (.region false d41r8)
  .ret)))))
def d41res : List DRes := [.cell 4 2 true]
theorem c41 [Laid] : CodeOf Try.prog 41 37 d41 d41res := ⟨Try.f41, by kernel_rfl, by kernel_rfl, by kernel_rfl, by kernel_rfl, by kernel_rfl⟩
-- emendate/emendateref24.kids
def d42r0 : List RO := [
  ⟨.box (.tmp 0), (some 1), none, [], none⟩,
  ⟨.mov (.con .nil0), (some 2), none, [], none⟩]
def d42r1 : List RO := [
  ⟨.addOff 0 (.tmp 1), (some 3), none, [], none⟩,
  ⟨.load 1 false (.tmp 3), (some 4), none, [0], none⟩]
def d42r2 : List RO := [
  ⟨.bin .eql (.tmp 4) (.con (.v (.int .i64 3))), (some 6), none, [], none⟩,
  ⟨.mov (.tmp 6), (some 5), none, [0], none⟩]
def d42r3 : List RO := [
  ⟨.addOff 2 (.tmp 1), (some 7), none, [], none⟩,
  ⟨.load 1 false (.tmp 7), (some 8), none, [0], none⟩,
  ⟨.bslice 1 1 [(.v (.int .i64 0))] [(0, 1, (.tmp 8))], (some 9), none, [1], none⟩,
  ⟨.mov (.tmp 9), (some 2), none, [2, 0, 1, 2], none⟩]
def d42r4 : List RO := [
  ⟨.bin .eql (.tmp 4) (.con (.v (.int .i64 4))), (some 11), none, [], none⟩,
  ⟨.mov (.tmp 11), (some 10), none, [0], none⟩]
def d42r5 : List RO := [
  ⟨.addOff 2 (.tmp 1), (some 12), none, [], none⟩,
  ⟨.load 1 false (.tmp 12), (some 13), none, [0], none⟩,
  ⟨.addOff 3 (.tmp 1), (some 14), none, [], none⟩,
  ⟨.load 1 false (.tmp 14), (some 15), none, [2], none⟩,
  ⟨.bslice 2 1 [(.v (.int .i64 0)), (.v (.int .i64 0))] [(0, 1, (.tmp 13)), (1, 1, (.tmp 15))], (some 16), none, [1, 3], none⟩,
  ⟨.mov (.tmp 16), (some 2), none, [4, 0, 1, 2, 3, 4], none⟩]
def d42r6 : List RO := [
  ⟨.mov (.con .nil0), (some 2), none, [], none⟩]
def d42 : DC := (.seq (.region false d42r0)
  (.seq (.seq (.region false d42r1)
  (.block 0 (.seq (.region false d42r2)
  (.cond (.tmp 5) (.seq (.region false d42r3)
  .ret)
  (.seq (.region false d42r4)
  (.cond (.tmp 10) (.seq (.region false d42r5)
  .ret)
  .skip))))))
  (.seq (.region false d42r6)
  .ret)))
def d42res : List DRes := [.slot 2]
theorem c42 [Laid] : CodeOf Try.prog 42 17 d42 d42res := ⟨Try.f42, by kernel_rfl, by kernel_rfl, by kernel_rfl, by kernel_rfl, by kernel_rfl⟩
-- emendate/emendateref37.add
def d43r0 : List RO := [
  ⟨.mov (.con (.v (.int .i64 0))), (some 4), none, [], none⟩]
def d43r1 : List RO := [
  ⟨.mov (.tmp 0), (some 5), none, [], none⟩,
  ⟨.bin .geq (.tmp 5) (.con (.v (.int .i64 1099511627776))), (some 6), none, [0], none⟩,
  ⟨.mov (.tmp 6), (some 7), none, [1], none⟩,
  ⟨.mov (.tmp 1), (some 8), (some (7, false)), [2], none⟩,
  ⟨.bin .geq (.tmp 8) (.con (.v (.int .i64 1099511627776))), (some 9), (some (7, false)), [3, 2], none⟩,
  ⟨.pick (.tmp 7) (.con (.v (.bool true))) (.tmp 9), (some 10), none, [2, 4], none⟩,
  ⟨.mov (.tmp 10), (some 11), none, [5, 2], none⟩,
  ⟨.mov (.tmp 0), (some 12), (some (11, false)), [6], none⟩,
  ⟨.mov (.tmp 1), (some 13), (some (11, false)), [6], none⟩,
  ⟨.bin .add (.tmp 12) (.tmp 13), (some 14), (some (11, false)), [7, 8, 6], none⟩,
  ⟨.bin .geq (.tmp 14) (.con (.v (.int .i64 1099511627776))), (some 15), (some (11, false)), [9, 6], none⟩,
  ⟨.pick (.tmp 11) (.con (.v (.bool true))) (.tmp 15), (some 16), none, [6, 10], none⟩]
def d43r2 : List RO := [
  ⟨.mov (.con (.v (.int .i64 1099511627776))), (some 4), none, [], none⟩]
def d43r3 : List RO := [
  ⟨.mov (.tmp 0), (some 17), none, [], none⟩,
  ⟨.mov (.tmp 1), (some 18), none, [], none⟩,
  ⟨.bin .add (.tmp 17) (.tmp 18), (some 19), none, [0, 1], none⟩,
  ⟨.mov (.tmp 19), (some 4), none, [2, 0, 1, 2], none⟩]
def d43 : DC := (.seq (.region false d43r0)
  (.seq (.seq (.region false d43r1)
  (.cond (.tmp 16) (.seq (.region false d43r2)
  .ret)
  .skip))
  (.seq (.region false d43r3)
  .ret)))
def d43res : List DRes := [.slot 4]
theorem c43 [Laid] : CodeOf Try.prog 43 20 d43 d43res := ⟨Try.f43, by kernel_rfl, by kernel_rfl, by kernel_rfl, by kernel_rfl, by kernel_rfl⟩

end Go.Proofs
/- The D-machine: what operations touch, told with names that are not numerals. Conditions: none. -/
namespace Go.DM
set_option linter.unusedSimpArgs false
set_option linter.unusedVariables false
set_option linter.unusedSectionVars false
variable [Laid] [YieldK]
theorem obs_setO (l : List (Nat × Ob)) (r : Nat) (o : Ob) : setO (obs l) r o = obs ((r, o) :: l) := rfl
end Go.DM
/- Trees of derivations and parses: what is asked of them, read by the program. Conditions: none. -/
namespace Go.Proofs
open Go.DM Go.DM.Srt
set_option linter.unusedSimpArgs false
set_option linter.unusedVariables false

open Classical in
noncomputable def decTr (ts : List T) : Tr := if h : ∃ d : Tr, d.enc = ts then h.choose else default
@[simp] theorem decTr_mk (a : Int) (l : List Tr) : decTr [ti a, .sl (trsT l)] = .mk a l := by
  have h : ∃ d : Tr, d.enc = [ti a, .sl (trsT l)] := ⟨.mk a l, by rw [Tr.enc]⟩
  unfold decTr
  rw [dif_pos h]
  exact enc_inj _ _ (h.choose_spec.trans (by rw [Tr.enc]))
@[simp] theorem trsT_inj {a b : List Tr} : trsT a = trsT b ↔ a = b := ⟨encs_inj a b, fun h => by rw [h]⟩
@[simp] theorem edgesT_inj {a b : List Edge} : edgesT a = edgesT b ↔ a = b := ⟨fun h => by have := congrArg decEdges h; simpa using this, fun h => by rw [h]⟩
@[simp] theorem rulesT_inj {a b : List Rule} : rulesT a = rulesT b ↔ a = b := ⟨fun h => by have := congrArg decRules h; simpa using this, fun h => by rw [h]⟩
@[simp] theorem intsT_inj {a b : List Int} : intsT a = intsT b ↔ a = b := ⟨fun h => by have := congrArg decInts h; simpa using this, fun h => by rw [h]⟩
theorem rowAt_tr {l : List Tr} {y : Nat} {a : Int} {k : List Tr} (h : y < l.length) (e : l.getD y default = .mk a k) : DM.rowAt (trsT l) y = [ti a, .sl (trsT k)] := by rw [rowAt_trs h, e, Tr.enc]
theorem take_succ_getD {α : Type} [Inhabited α] {l : List α} {i : Nat} (h : i < l.length) : l.take (i + 1) = l.take i ++ [l.getD i default] := by
  rw [List.take_add_one]; simp [List.getD, h]
theorem getD_mem {α : Type} [Inhabited α] {l : List α} {i : Nat} (h : i < l.length) : l.getD i default ∈ l := by simp [List.getD, h]
theorem trsSz_append : ∀ a b : List Tr, trsSz (a ++ b) = trsSz a + trsSz b
  | [], b => by simp [trsSz]
  | x :: a, b => by simp only [List.cons_append, trsSz, trsSz_append a b]; omega
theorem trsSz_take {l : List Tr} {y : Nat} (h : y < l.length) : trsSz (l.take (y + 1)) = trsSz (l.take y) + (l.getD y default).sz := by rw [take_succ_getD h, trsSz_append]; simp [trsSz]
theorem trsSz_take_le (l : List Tr) (y : Nat) : trsSz (l.take y) ≤ trsSz l := by
  have := trsSz_append (l.take y) (l.drop y)
  rw [List.take_append_drop] at this
  omega


noncomputable def s20 (N : Nat) : DM.Spec := specP (fun ts => ∃ a l, ts = [.agg [ti a, .sl (trsT l)]] ∧ (Tr.mk a l).sz ≤ N) (fun | [.agg d] => ti (decTr d).sz | _ => .bool false) true
set_option maxRecDepth 20000 in
set_option maxHeartbeats 8000000 in
theorem t20 : ∀ (N : Nat) (d : Tr), d.sz ≤ N → d.sz ≤ 1048576 → CallsOk Try.prog 20 [.agg d.enc] (ti d.sz) := by
  intro N
  induction N with
  | zero => intro d h; have := sz_pos d; omega
  | succ N ih =>
    rintro ⟨m, ks⟩ h1 h2
    have hΓ : EnvOk Try.prog (envOf [(20, s20 (min N 1048576))]) := by
      refine EnvOk.cons EnvOk.nil ?_
      rintro ts ⟨a, l, rfl, h⟩
      exact ⟨by simpa [s20, Tr.enc] using ih (.mk a l) (by omega) (by omega), fun _ => rfl⟩
    simp only [Tr.sz] at h1 h2 ⊢
    have hle := length_le_sz ks
    refine c20.ok (by simp) (initSt_sat ?_)
    simp [Tr.enc]
    refine SatD.regSeq hΓ follows [1] ?_
    simp [d20r0]
    refine SatD.le (Le.keep (o := []) (l := [(1, .v (.box [ti m, .sl (trsT ks)]))]) (nxt' := 1200) ?_ ?_ ?_ ?_) ?_
    · simp
    · simp
    · simp
    · simp
    refine SatD.regSeq hΓ follows [1, 3] ?_
    simp [d20r1]
    refine SatD.seq ?_
    refine SatD.regSeq hΓ follows [1, 3, 4] ?_
    simp [d20r2]
    refine SatD.block ?_
    refine SatD.loop (fun y : Nat => ⟨DM.look [(1, .v (.box [ti m, .sl (trsT ks)])), (3, .v (ti ((trsSz (ks.take y) : Int) + 1))), (4, .v (ti y))], obs [], 2000, 1000, []⟩)
      (fun y => y ≤ ks.length) (fun y => ks.length - y) 0 (Le.keep (o := []) ?_ ?_ ?_ ?_) (by simp) (fun y hy => ?_)
    · simp
    · simp
    · simp
    · simp [trsSz]
    refine SatD.seq ?_
    refine SatD.regSeq hΓ follows [1, 3, 4, 9] ?_
    simp [d20r3]
    refine SatD.cond rfl (fun hcc => ?_) (fun hcc => ?_)
    · have hcc : y < ks.length := by simpa using hcc
      refine SatD.skip ?_
      simp
      refine SatD.seq ?_
      refine SatD.block ?_
      have ht := trsSz_take hcc
      have hz := sz_getD hcc
      have htl := trsSz_take_le ks y
      obtain ⟨⟨ka, kl⟩, hk⟩ : ∃ k, ks.getD y default = k := ⟨_, rfl⟩
      rw [hk] at ht hz
      have rr := rowAt_tr hcc hk
      have htl2 := trsSz_take_le ks (y + 1)
      have hS : ((trsSz (ks.take (y + 1)) : Int) + 1) = (trsSz (ks.take y) : Int) + 1 + ((Tr.mk ka kl).sz : Int) := by rw [ht]; push_cast; omega
      refine SatD.reg hΓ follows [1, 3, 4] ?_
      simp [d20r4, hcc, rr, s20]
      refine ⟨⟨_, _, ⟨rfl, rfl⟩, by omega⟩, ?_⟩
      rw [wrap_id (by omega)]
      refine SatD.reg hΓ follows [1, 3, 4] ?_
      simp [d20r5]
      rw [wrap_id (x := (y : Int) + 1) (by omega)]
      refine ⟨y + 1, Le.keep (o := []) ?_ ?_ ?_ ?_, by omega, by omega⟩
      · simp
      · simp
      · simp
      · simp [hS]
    · have hy2 : y = ks.length := by simp at hcc; omega
      subst hy2
      rw [List.take_length]
      refine SatD.exit ?_
      simp
      refine SatD.regSeq hΓ follows [2] ?_
      simp [d20r6]
      refine SatD.ret ?_
      simp [d20res]
set_option maxRecDepth 20000 in
set_option maxHeartbeats 8000000 in
theorem t42 (r : Rule) : CallsOk Try.prog 42 [.agg r.enc] (.sl (intsT (kidsOf r))) := by
  obtain ⟨rk, rh, ra, rb, rp, rg⟩ := r
  obtain ⟨R, hR⟩ : ∃ R, kidsOf ⟨rk, rh, ra, rb, rp, rg⟩ = R := ⟨_, rfl⟩
  rw [hR]
  simp only [kidsOf] at hR
  have hΓ := (EnvOk.nil : EnvOk Try.prog (envOf []))
  refine c42.ok (by simp) (initSt_sat ?_)
  simp [Rule.enc]
  refine SatD.regSeq hΓ follows [1] ?_
  simp [d42r0]
  refine SatD.le (Le.keep (o := []) (l := [(1, .v (.box [ti rk, ti rh, ti ra, ti rb, ti rp, ti rg]))]) (nxt' := 1200) ?_ ?_ ?_ ?_) ?_
  · simp
  · simp
  · simp
  · simp
  refine SatD.seq ?_
  refine SatD.regSeq hΓ follows [1, 4] ?_
  simp [d42r1]
  refine SatD.block ?_
  refine SatD.regSeq hΓ follows [1, 4, 5] ?_
  simp [d42r2]
  refine SatD.cond rfl (fun h1 => ?_) (fun h1 => ?_)
  · have h1 : rk = 3 := by simpa using h1
    rw [if_pos h1] at hR
    subst hR
    refine SatD.regSeq hΓ follows [2] ?_
    simp [d42r3, chunk]
    refine SatD.ret ?_
    simp [d42res, intsT]
  · have h1 : ¬ rk = 3 := by simpa using h1
    rw [if_neg h1] at hR
    refine SatD.regSeq hΓ follows [1, 10] ?_
    simp [d42r4]
    refine SatD.cond rfl (fun h2 => ?_) (fun h2 => ?_)
    · have h2 : rk = 4 := by simpa using h2
      rw [if_pos h2] at hR
      subst hR
      refine SatD.regSeq hΓ follows [2] ?_
      simp [d42r5, chunk]
      refine SatD.ret ?_
      simp [d42res, intsT]
    · have h2 : ¬ rk = 4 := by simpa using h2
      rw [if_neg h2] at hR
      subst hR
      refine SatD.skip ?_
      simp
      refine SatD.regSeq hΓ follows [2] ?_
      simp [d42r6]
      refine SatD.ret ?_
      simp [d42res, intsT]
set_option maxRecDepth 20000 in
set_option maxHeartbeats 8000000 in
theorem t43 (a b : Int) (h1 : 0 ≤ a ∧ a ≤ 1099511627776) (h2 : 0 ≤ b ∧ b ≤ 1099511627776) : CallsOk Try.prog 43 [ti a, ti b] (ti (addS a b)) := by
  have hΓ : EnvOk Try.prog (envOf []) := EnvOk.nil
  obtain ⟨R, hR⟩ : ∃ R, addS a b = R := ⟨_, rfl⟩
  rw [hR]
  simp only [addS, Inf] at hR
  obtain ⟨c1, hc1⟩ : ∃ c1 : Bool, decide (1099511627776 ≤ a ∨ 1099511627776 ≤ b ∨ 1099511627776 ≤ a + b) = c1 := ⟨_, rfl⟩
  refine c43.ok (by simp) (initSt_sat ?_)
  simp
  refine SatD.regSeq hΓ follows [0, 1] ?_
  simp [d43r0]
  refine SatD.seq ?_
  refine SatD.regToS hΓ follows [(0, .v (ti a)), (1, .v (ti b)), (16, .v (.bool c1))] ?_ ?_
  · by_cases q1 : 1099511627776 ≤ a
    · have : c1 = true := by rw [← hc1]; simp [q1]
      simp [d43r1, q1, this, wrap_id (x := a + b) (by omega)]
    · skip
      by_cases q2 : 1099511627776 ≤ b
      · have : c1 = true := by rw [← hc1]; simp [q2]
        simp [d43r1, q1, q2, this, wrap_id (x := a + b) (by omega)]
      · skip
        by_cases q3 : 1099511627776 ≤ a + b
        · have : c1 = true := by rw [← hc1]; simp [q3]
          simp [d43r1, q1, q2, q3, this, wrap_id (x := a + b) (by omega)]
        · skip
          have : c1 = false := by rw [← hc1]; simp [q1, q2, q3]
          simp [d43r1, q1, q2, q3, this, wrap_id (x := a + b) (by omega)]
  refine SatD.cond rfl (fun g => ?_) (fun g => ?_)
  · rw [g] at hc1
    rw [if_pos (of_decide_eq_true hc1)] at hR
    refine SatD.regSeq hΓ follows [4] ?_
    simp [d43r2]
    refine SatD.ret ?_
    simp [d43res, hR]
  · rw [g] at hc1
    rw [if_neg (of_decide_eq_false hc1)] at hR
    refine SatD.skip ?_
    simp
    refine SatD.regSeq hΓ follows [4] ?_
    simp [d43r3, hR, wrap_id (x := R) (by omega)]
    refine SatD.ret ?_
    simp [d43res]
set_option maxRecDepth 20000 in
set_option maxHeartbeats 8000000 in
theorem t26 (a b : List Int) (h1 : a.length ≤ 9223372036854775807) : CallsOk Try.prog 26 [.sl (intsT a), .sl (intsT b)] (.bool (decide (a = b))) := by
  have hΓ : EnvOk Try.prog (envOf []) := EnvOk.nil
  obtain ⟨v, hv⟩ : ∃ v, decide (a = b) = v := ⟨_, rfl⟩
  rw [hv]
  have bad : a ≠ b → v = false := fun h => by rw [← hv]; simp [h]
  refine c26.ok (by simp) (initSt_sat ?_)
  simp
  refine SatD.regSeq hΓ follows [0, 1] ?_
  simp [d26r0]
  refine SatD.seq ?_
  refine SatD.regSeq hΓ follows [0, 1, 10] ?_
  simp [d26r1]
  refine SatD.cond rfl (fun g => ?_) (fun g => ?_)
  · have g : ¬ a.length = b.length := by simp at g; omega
    refine SatD.regSeq hΓ follows [4] ?_
    simp [d26r2]
    refine SatD.ret ?_
    rw [bad fun h => g (by rw [h])]
    simp [d26res]
  · have g : a.length = b.length := by simp at g; omega
    refine SatD.skip ?_
    simp
    refine SatD.seq ?_
    refine SatD.regSeq hΓ follows [0, 1, 5] ?_
    simp [d26r3]
    refine SatD.block ?_
    refine SatD.loop (fun y : Nat => ⟨DM.look [(0, .v (.sl (intsT a))), (1, .v (.sl (intsT b))), (5, .v (ti y))], obs [], 2000, 1000, []⟩)
      (fun y => y ≤ a.length ∧ ∀ i, i < y → a.getD i default = b.getD i default) (fun y => a.length - y) 0 (Le.keep (o := []) ?_ ?_ ?_ ?_) (by simp) (fun y hy => ?_)
    · simp
    · simp
    · simp
    · simp
    obtain ⟨hy1, hy2⟩ := hy
    refine SatD.seq ?_
    refine SatD.regSeq hΓ follows [0, 1, 5, 14] ?_
    simp [d26r4]
    refine SatD.cond rfl (fun hcc => ?_) (fun hcc => ?_)
    · have hcc : y < a.length := by simpa using hcc
      refine SatD.skip ?_
      simp
      refine SatD.seq ?_
      refine SatD.block ?_
      have rr := rowAt_ints hcc
      have rr2 := rowAt_ints (l := b) (y := y) (by omega)
      obtain ⟨x, hx⟩ : ∃ x, a.getD y default = x := ⟨_, rfl⟩
      obtain ⟨x2, hx2⟩ : ∃ x, b.getD y default = x := ⟨_, rfl⟩
      rw [hx] at rr
      rw [hx2] at rr2
      have hcb : y < b.length := by omega
      refine SatD.regSeq hΓ follows [0, 1, 5, 25] ?_
      simp [d26r5, hcc, hcb, rr, rr2]
      refine SatD.cond rfl (fun g2 => ?_) (fun g2 => ?_)
      · have g2 : ¬ x = x2 := by simpa using g2
        refine SatD.regSeq hΓ follows [4] ?_
        simp [d26r6]
        refine SatD.ret ?_
        rw [bad fun h => g2 (by rw [← hx, ← hx2, h])]
        simp [d26res]
      · have g2 : x = x2 := by simpa using g2
        refine SatD.skip ?_
        simp
        refine SatD.reg hΓ follows [0, 1, 5] ?_
        simp [d26r7]
        rw [wrap_id (x := (y : Int) + 1) (by omega)]
        refine ⟨y + 1, Le.keep (o := []) ?_ ?_ ?_ ?_, ⟨by omega, fun i hi => ?_⟩, by omega⟩
        · simp
        · simp
        · simp
        · simp
        · by_cases e : i = y
          · subst e; show a.getD i default = b.getD i default; rw [hx, hx2]; exact g2
          · exact hy2 i (by omega)
    · have hy3 : y = a.length := by simp at hcc; omega
      subst hy3
      refine SatD.exit ?_
      simp
      refine SatD.regSeq hΓ follows [4] ?_
      simp [d26r8]
      refine SatD.ret ?_
      have : a = b := List.ext_getElem g fun i h1 h2 => by have := hy2 i h1; simpa [h1, h2] using this
      have : v = true := by rw [← hv]; exact decide_eq_true this
      rw [this]
      simp [d26res]

theorem pricePs_append (rules : List Rule) : ∀ a b : List Tr, pricePs rules (a ++ b) = pricePs rules a + pricePs rules b
  | [], b => by simp [pricePs]
  | x :: a, b => by simp only [List.cons_append, pricePs, pricePs_append rules a b]; omega
theorem pricePs_take {rules : List Rule} {l : List Tr} {y : Nat} (h : y < l.length) : pricePs rules (l.take (y + 1)) = pricePs rules (l.take y) + priceP rules (l.getD y default) := by rw [take_succ_getD h, pricePs_append]; simp [pricePs]
theorem getD_of_not {rules : List Rule} (hr : ∀ r ∈ rules, 0 ≤ r.price ∧ r.price ≤ 1000) (k : Nat) : 0 ≤ (rules.getD k default).price ∧ (rules.getD k default).price ≤ 1000 := by
  by_cases h : k < rules.length
  · exact hr _ (getD_mem h)
  · rw [show rules.getD k default = default by simp [List.getD, h]]; exact ⟨by decide, by decide⟩
mutual
theorem price_range {rules : List Rule} (hr : ∀ r ∈ rules, 0 ≤ r.price ∧ r.price ≤ 1000) : ∀ d : Tr, 0 ≤ priceP rules d ∧ priceP rules d ≤ 1000 * d.sz
  | .mk n ks => by
    have := prices_range hr ks
    have := getD_of_not hr n.toNat
    simp only [priceP, Tr.sz]; omega
theorem prices_range {rules : List Rule} (hr : ∀ r ∈ rules, 0 ≤ r.price ∧ r.price ≤ 1000) : ∀ ks : List Tr, 0 ≤ pricePs rules ks ∧ pricePs rules ks ≤ 1000 * trsSz ks
  | [] => by simp [pricePs, trsSz]
  | k :: ks => by
    have := price_range hr k
    have := prices_range hr ks
    simp only [pricePs, trsSz]; omega
end
/-- The numbers stand for rules. -/
def okP (rules : List Rule) : Tr → Prop := fun d => ∃ h, validP rules h d = true
theorem okP_mk {rules : List Rule} {m : Int} {ks : List Tr} (h : okP rules (.mk m ks)) : (0 ≤ m ∧ m < rules.length) ∧ ks.length = (kidsOf (rules.getD m.toNat default)).length ∧ ∀ y, y < ks.length → okP rules (ks.getD y default) := by
  obtain ⟨hd, h⟩ := h
  simp only [validP, Bool.and_eq_true, decide_eq_true_eq] at h
  refine ⟨h.1.1.1, h.1.2, fun y hy => ?_⟩
  have : ∀ (ts : List Int) (ks : List Tr), ts.length = ks.length → validPs rules ts ks = true → ∀ y, y < ks.length → okP rules (ks.getD y default) := by
    intro ts
    induction ts with
    | nil => intro ks h1 _ y hy; cases ks <;> simp_all
    | cons t ts ih =>
      intro ks h1 h2 y hy
      cases ks with
      | nil => simp at hy
      | cons k ks =>
        simp only [validPs, Bool.and_eq_true] at h2
        cases y with
        | zero => exact ⟨t, by simpa using h2.1⟩
        | succ y => simpa using ih ks (by simpa using h1) h2.2 y (by simpa using hy)
  exact this _ _ h.1.2.symm h.2 y hy
theorem rowAt_tr' {l : List Rule} {y : Nat} {r : Rule} (h : y < l.length) (e : l.getD y default = r) : DM.rowAt (rulesT l) y = r.enc := by rw [rowAt_rules h, e]
noncomputable def s28 (nt nn ns : Int) (rules : List Rule) (N : Nat) : DM.Spec := specP (fun ts => ∃ a l, ts = [.agg [ti nt, ti nn, ti ns, .sl (rulesT rules)], .agg [ti a, .sl (trsT l)]] ∧ (Tr.mk a l).sz ≤ N ∧ okP rules (.mk a l)) (fun | [.agg [_, _, _, .sl r], .agg d] => ti (priceP (decRules r) (decTr d)) | _ => .bool false) true
set_option maxRecDepth 20000 in
set_option maxHeartbeats 8000000 in
theorem t28 (nt nn ns : Int) (rules : List Rule) (hr : ∀ r ∈ rules, 0 ≤ r.price ∧ r.price ≤ 1000) : ∀ (N : Nat) (d : Tr), d.sz ≤ N → d.sz ≤ 1048576 → okP rules d → CallsOk Try.prog 28 [.agg [ti nt, ti nn, ti ns, .sl (rulesT rules)], .agg d.enc] (ti (priceP rules d)) := by
  intro N
  induction N with
  | zero => intro d  h; have := sz_pos d; omega
  | succ N ih =>
    rintro ⟨m, ks⟩  h1 h2 h3
    have hΓ : EnvOk Try.prog (envOf [(28, s28 nt nn ns rules (min N 1048576))]) := by
      refine EnvOk.cons EnvOk.nil ?_
      rintro ts ⟨a, l, rfl, h, k⟩
      exact ⟨by simpa [s28, Tr.enc] using ih (.mk a l) (by omega) (by omega) k, fun _ => rfl⟩
    obtain ⟨⟨m1, m2⟩, _, h4⟩ := okP_mk h3
    obtain ⟨m, rfl⟩ := Int.eq_ofNat_of_zero_le m1
    have m2 : m < rules.length := by omega
    obtain ⟨⟨rk, rh, ra, rb, rp, rg⟩, hrl⟩ : ∃ r, rules.getD m default = r := ⟨_, rfl⟩
    have rw1 := rowAt_tr' m2 hrl
    have hrp := hr ⟨rk, rh, ra, rb, rp, rg⟩ (by rw [← hrl]; exact getD_mem m2)
    simp only at hrp
    have hval : priceP rules (.mk m ks) = rp + pricePs rules ks := by simp only [priceP, Int.toNat_natCast, hrl]
    simp only [Tr.sz] at h1 h2
    have hle := length_le_sz ks
    rw [hval]
    refine c28.ok (by simp) (initSt_sat ?_)
    simp [Tr.enc]
    refine SatD.regSeq hΓ follows [2, 3] ?_
    simp [d28r0]
    refine SatD.le (Le.keep (o := []) (l := [(2, .v (.box [ti nt, ti nn, ti ns, .sl (rulesT rules)])), (3, .v (.box [ti m, .sl (trsT ks)]))]) (nxt' := 1200) ?_ ?_ ?_ ?_) ?_
    · simp
    · simp
    · simp
    · simp
    refine SatD.regSeq hΓ follows [2, 3, 5] ?_
    simp [d28r1, m2, rw1, Rule.enc]
    refine SatD.seq ?_
    refine SatD.regSeq hΓ follows [2, 3, 5, 6] ?_
    simp [d28r2]
    refine SatD.block ?_
    refine SatD.loop (fun y : Nat => ⟨DM.look [(2, .v (.box [ti nt, ti nn, ti ns, .sl (rulesT rules)])), (3, .v (.box [ti m, .sl (trsT ks)])), (5, .v (ti (rp + pricePs rules (ks.take y)))), (6, .v (ti y))], obs [], 2000, 1000, []⟩)
      (fun y => y ≤ ks.length) (fun y => ks.length - y) 0 (Le.keep (o := []) ?_ ?_ ?_ ?_) (by simp) (fun y hy => ?_)
    · simp
    · simp
    · simp
    · simp [pricePs]
    refine SatD.seq ?_
    refine SatD.regSeq hΓ follows [2, 3, 5, 6, 18] ?_
    simp [d28r3]
    refine SatD.cond rfl (fun hcc => ?_) (fun hcc => ?_)
    · have hcc : y < ks.length := by simpa using hcc
      refine SatD.skip ?_
      simp
      refine SatD.seq ?_
      refine SatD.block ?_
      have ht := trsSz_take hcc
      have hp1 := pricePs_take (rules := rules) hcc
      have hz := sz_getD hcc
      have htl2 := trsSz_take_le ks (y + 1)
      have hk1 := h4 y hcc
      have hp2 := price_range hr (ks.getD y default)
      have hp3 := prices_range hr (ks.take y)
      obtain ⟨⟨ka, kl⟩, hk⟩ : ∃ k, ks.getD y default = k := ⟨_, rfl⟩
      rw [hk] at ht hz hp1 hk1 hp2
      have rr := rowAt_tr hcc hk
      have hS : rp + pricePs rules (ks.take (y + 1)) = rp + pricePs rules (ks.take y) + priceP rules (.mk ka kl) := by omega
      refine SatD.reg hΓ follows [2, 3, 5, 6] ?_
      simp [d28r4, hcc, rr, s28]
      refine ⟨⟨_, _, ⟨rfl, rfl⟩, by omega, hk1⟩, ?_⟩
      rw [wrap_id (by omega)]
      refine SatD.reg hΓ follows [2, 3, 5, 6] ?_
      simp [d28r5]
      rw [wrap_id (x := (y : Int) + 1) (by omega)]
      refine ⟨y + 1, Le.keep (o := []) ?_ ?_ ?_ ?_, by omega, by omega⟩
      · simp
      · simp
      · simp
      · simp [hS]
    · have hy2 : y = ks.length := by simp at hcc; omega
      subst hy2
      rw [List.take_length]
      refine SatD.exit ?_
      simp
      refine SatD.regSeq hΓ follows [4] ?_
      simp [d28r6]
      refine SatD.ret ?_
      simp [d28res]

def valT (v : Int × Int) : List T := [ti v.1, ti v.2]
def valsT (l : List (Int × Int)) : List (List T) := l.map valT
def decVals (l : List (List T)) : List (Int × Int) := l.map fun x => (unti (x.getD 0 (ti 0)), unti (x.getD 1 (ti 0)))
@[simp] theorem decVals_enc (l : List (Int × Int)) : decVals (valsT l) = l := map_map_id (fun _ => rfl) l
@[simp] theorem valsT_inj {a b : List (Int × Int)} : valsT a = valsT b ↔ a = b := ⟨fun h => by have := congrArg decVals h; simpa using this, fun h => by rw [h]⟩
@[simp] theorem length_vals (l : List (Int × Int)) : (valsT l).length = l.length := by simp [valsT]
theorem rowAt_vals {l : List (Int × Int)} {y : Nat} {v : Int × Int} (h : y < l.length) (e : l.getD y default = v) : DM.rowAt (valsT l) y = [ti v.1, ti v.2] := by subst e; simp [DM.rowAt, valsT, valT, h]
def okV (v : Int × Int) : Prop := (0 ≤ v.1 ∧ v.1 ≤ 1099511627776) ∧ 0 ≤ v.2 ∧ v.2 ≤ 1099511627776
def foldV (c : Int) (l : List (Int × Int)) : Int × Int := l.foldl (fun q x => (min (q.1 + x.1) Inf, min (q.2 + x.2) Inf)) (c, 1)
theorem foldV_ok {c : Int} (hc : 0 ≤ c ∧ c ≤ 1099511627776) : ∀ {l : List (Int × Int)}, (∀ v ∈ l, okV v) → okV (foldV c l) := by
  suffices ∀ (l : List (Int × Int)) (q : Int × Int), okV q → (∀ v ∈ l, okV v) → okV (l.foldl (fun q x => (min (q.1 + x.1) Inf, min (q.2 + x.2) Inf)) q) from fun {l} h => this l (c, 1) ⟨hc, by simp only; omega, by simp only; omega⟩ h
  intro l
  induction l with
  | nil => intro q h _; exact h
  | cons x l ih =>
    intro q h k
    refine ih _ ?_ fun v hv => k v (List.mem_cons_of_mem _ hv)
    have := k x (List.mem_cons_self ..)
    unfold okV at *
    simp only [Inf]; omega
theorem foldV_take {c : Int} {l : List (Int × Int)} {y : Nat} {v : Int × Int} (h : y < l.length) (e : l.getD y default = v) : foldV c (l.take (y + 1)) = (min ((foldV c (l.take y)).1 + v.1) 1099511627776, min ((foldV c (l.take y)).2 + v.2) 1099511627776) := by
  rw [take_succ_getD h, e, foldV, List.foldl_append]; rfl
theorem combV_ok {c : Int} (hc : 0 ≤ c ∧ c ≤ 1099511627776) {l : List (Int × Int)} (h : ∀ v ∈ l, okV v) : okV (combV c l) := by
  have := foldV_ok hc h
  show okV (capV (foldV c l))
  unfold capV
  split
  · exact ⟨by simp [Inf], by simp⟩
  · exact this
set_option maxRecDepth 20000 in
set_option maxHeartbeats 8000000 in
theorem t41 (c : Int) (l : List (Int × Int)) (hc : 0 ≤ c ∧ c ≤ 1099511627776) (hl : ∀ v ∈ l, okV v) (hn : l.length ≤ 9223372036854775807) : CallsOk Try.prog 41 [ti c, .sl (valsT l)] (.agg (valT (combV c l))) := by
  have hΓ : EnvOk Try.prog (envOf []) := EnvOk.nil
  obtain ⟨R, hR⟩ : ∃ R, combV c l = R := ⟨_, rfl⟩
  have hR0 : capV (foldV c l) = R := hR
  rw [hR]
  unfold capV at hR0
  simp only [Inf] at hR0
  refine c41.ok (by simp) (initSt_sat ?_)
  simp
  refine SatD.regSeq hΓ follows [0, 1, 4] ?_
  simp [d41r0]
  refine SatD.regSeq hΓ follows [1, 4, 5, 6] ?_
  simp [d41r1]
  refine SatD.seq ?_
  refine SatD.regSeq hΓ follows [1, 4, 5, 6, 7] ?_
  simp [d41r2]
  refine SatD.block ?_
  refine SatD.loop (fun y : Nat => ⟨DM.look [(1, .v (.sl (valsT l))), (4, .ptr 1005 0), (5, .v (ti (foldV c (l.take y)).1)), (6, .v (ti (foldV c (l.take y)).2)), (7, .v (ti y))], obs [(1005, .box [.v (ti 0), .v (ti 0)])], 2000, 1000, []⟩)
    (fun y => y ≤ l.length) (fun y => l.length - y) 0 (Le.keep ?_ ?_ ?_ ?_) (by simp) (fun y hy => ?_)
  · simp
  · simp
  · simp
  · simp [foldV]
  refine SatD.seq ?_
  refine SatD.regSeq hΓ follows [1, 4, 5, 6, 7, 12] ?_
  simp [d41r3]
  refine SatD.cond rfl (fun hcc => ?_) (fun hcc => ?_)
  · have hcc : y < l.length := by simpa using hcc
    refine SatD.skip ?_
    simp
    refine SatD.seq ?_
    refine SatD.block ?_
    obtain ⟨v, hv⟩ : ∃ v, l.getD y default = v := ⟨_, rfl⟩
    have rr := rowAt_vals hcc hv
    have hS := foldV_take (c := c) hcc hv
    have hf := foldV_ok hc (l := l.take y) fun v hv => hl v (List.mem_of_mem_take hv)
    have hv1 := hl v (by rw [← hv]; exact getD_mem hcc)
    obtain ⟨q, hq⟩ : ∃ q, foldV c (l.take y) = q := ⟨_, rfl⟩
    rw [hq] at hS hf ⊢
    obtain ⟨⟨f1, f2⟩, f3, f4⟩ := hf
    obtain ⟨⟨v1, v2⟩, v3, v4⟩ := hv1
    refine SatD.reg hΓ follows [1, 4, 5, 6, 7] ?_
    simp [d41r4, hcc, rr, wrap_id (x := q.1 + v.1) (by omega), wrap_id (x := q.2 + v.2) (by omega)]
    refine SatD.reg hΓ follows [1, 4, 5, 6, 7] ?_
    simp [d41r5]
    rw [wrap_id (x := (y : Int) + 1) (by omega)]
    refine ⟨y + 1, Le.keep ?_ ?_ ?_ ?_, by omega, by omega⟩
    · simp
    · simp
    · simp
    · simp [hS]
  · have hy2 : y = l.length := by simp at hcc; omega
    subst hy2
    rw [List.take_length]
    refine SatD.exit ?_
    simp
    refine SatD.seq ?_
    obtain ⟨q, hq⟩ : ∃ q, foldV c l = q := ⟨_, rfl⟩
    rw [hq] at hR0 ⊢
    refine SatD.regSeq hΓ follows [4, 5, 6, 32] ?_
    simp [d41r6]
    refine SatD.cond rfl (fun g => ?_) (fun g => ?_)
    · rw [if_pos (of_decide_eq_true g)] at hR0
      subst hR0
      refine SatD.regSeq hΓ follows [4] ?_
      simp [d41r7]
      refine SatD.ret ?_
      simp [d41res, valT]
    · rw [if_neg (of_decide_eq_false g)] at hR0
      subst hR0
      refine SatD.skip ?_
      simp
      refine SatD.regSeq hΓ follows [4] ?_
      simp [d41r8]
      refine SatD.ret ?_
      simp [d41res, valT]

theorem yieldPs_append (rules : List Rule) : ∀ a b : List Tr, yieldPs rules (a ++ b) = yieldPs rules a ++ yieldPs rules b
  | [], b => by simp [yieldPs]
  | x :: a, b => by simp only [List.cons_append, yieldPs, yieldPs_append rules a b, List.append_assoc]
theorem yieldPs_take {rules : List Rule} {l : List Tr} {y : Nat} (h : y < l.length) : yieldPs rules (l.take (y + 1)) = yieldPs rules (l.take y) ++ yieldP rules (l.getD y default) := by rw [take_succ_getD h, yieldPs_append]; simp [yieldPs]
mutual
theorem yield_len (rules : List Rule) : ∀ d : Tr, (yieldP rules d).length ≤ d.sz
  | .mk n ks => by
    have := yields_len rules ks
    simp only [yieldP, Tr.sz]; split <;> simp <;> omega
theorem yields_len (rules : List Rule) : ∀ ks : List Tr, (yieldPs rules ks).length ≤ trsSz ks
  | [] => by simp [yieldPs, trsSz]
  | k :: ks => by
    have := yield_len rules k
    have := yields_len rules ks
    simp only [yieldPs, trsSz, List.length_append]; omega
end
theorem rows_ints (l : List Int) : ∀ x ∈ intsT l, x.length = 1 := by
  intro x hx
  simp only [intsT, List.mem_map] at hx
  obtain ⟨_, _, rfl⟩ := hx
  rfl
theorem intsT_append (a b : List Int) : intsT (a ++ b) = intsT a ++ intsT b := by simp [intsT]
noncomputable def s27 (nt nn ns : Int) (rules : List Rule) (N : Nat) : DM.Spec := specP (fun ts => ∃ a l, ts = [.agg [ti nt, ti nn, ti ns, .sl (rulesT rules)], .agg [ti a, .sl (trsT l)]] ∧ (Tr.mk a l).sz ≤ N ∧ okP rules (.mk a l)) (fun | [.agg [_, _, _, .sl r], .agg d] => .sl (intsT (yieldP (decRules r) (decTr d))) | _ => .bool false) false
set_option maxRecDepth 20000 in
set_option maxHeartbeats 8000000 in
theorem t27 (nt nn ns : Int) (rules : List Rule) : ∀ (N : Nat) (d : Tr), d.sz ≤ N → d.sz ≤ 1048576 → okP rules d → CallsOk Try.prog 27 [.agg [ti nt, ti nn, ti ns, .sl (rulesT rules)], .agg d.enc] (.sl (intsT (yieldP rules d))) := by
  intro N
  induction N with
  | zero => intro d  h; have := sz_pos d; omega
  | succ N ih =>
    rintro ⟨m, ks⟩  h1 h2 h3
    have hΓ : EnvOk Try.prog (envOf [(27, s27 nt nn ns rules (min N 1048576))]) := by
      refine EnvOk.cons EnvOk.nil ?_
      rintro ts ⟨a, l, rfl, h, k⟩
      exact ⟨by simpa [s27, Tr.enc] using ih (.mk a l) (by omega) (by omega) k, fun h => by cases h⟩
    obtain ⟨⟨m1, m2⟩, _, h4⟩ := okP_mk h3
    obtain ⟨m, rfl⟩ := Int.eq_ofNat_of_zero_le m1
    have m2 : m < rules.length := by omega
    obtain ⟨⟨rk, rh, ra, rb, rp, rg⟩, hrl⟩ : ∃ r, rules.getD m default = r := ⟨_, rfl⟩
    have rw1 := rowAt_tr' m2 hrl
    obtain ⟨R, hR⟩ : ∃ R, yieldP rules (.mk m ks) = R := ⟨_, rfl⟩
    rw [hR]
    simp only [yieldP, Int.toNat_natCast, hrl] at hR
    simp only [Tr.sz] at h1 h2
    have hle := length_le_sz ks
    refine c27.ok (by simp) (initSt_sat ?_)
    simp [Tr.enc]
    refine SatD.regSeq hΓ follows [2, 3] ?_
    simp [d27r0]
    refine SatD.le (Le.keep (o := []) (l := [(2, .v (.box [ti nt, ti nn, ti ns, .sl (rulesT rules)])), (3, .v (.box [ti m, .sl (trsT ks)]))]) (nxt' := 1200) ?_ ?_ ?_ ?_) ?_
    · simp
    · simp
    · simp
    · simp
    refine SatD.regSeq hΓ follows [2, 3, 5] ?_
    simp [d27r1, m2, rw1, Rule.enc]
    refine SatD.le (Le.keep (o := []) (l := [(2, .v (.box [ti nt, ti nn, ti ns, .sl (rulesT rules)])), (3, .v (.box [ti m, .sl (trsT ks)])), (5, .v (.box [ti rk, ti rh, ti ra, ti rb, ti rp, ti rg]))]) (nxt' := 1200) ?_ ?_ ?_ ?_) ?_
    · simp
    · simp
    · simp
    · simp
    refine SatD.seq ?_
    refine SatD.regSeq hΓ follows [2, 3, 5, 16] ?_
    simp [d27r2]
    refine SatD.cond rfl (fun g => ?_) (fun g => ?_)
    · have g : rk = 2 := by simpa using g
      rw [if_pos g] at hR
      subst hR
      refine SatD.regSeq hΓ follows [4] ?_
      simp [d27r3, chunk]
      refine SatD.ret ?_
      simp [d27res, intsT]
    · have g : ¬ rk = 2 := by simpa using g
      rw [if_neg g] at hR
      subst hR
      refine SatD.skip ?_
      simp
      refine SatD.regSeq hΓ follows [2, 3, 6] ?_
      simp [d27r4]
      refine SatD.le (Le.keep (o := []) (l := [(2, .v (.box [ti nt, ti nn, ti ns, .sl (rulesT rules)])), (3, .v (.box [ti m, .sl (trsT ks)])), (6, .nil0)]) (nxt' := 1400) ?_ ?_ ?_ ?_) ?_
      · simp
      · simp
      · simp
      · simp
      refine SatD.le (Le.nilSlot (k := 6) 3 (sz := 1) (by omega) (by simp)) ?_
      rw [obs_setO]
      refine SatD.seq ?_
      refine SatD.regSeq hΓ follows [2, 3, 6, 7] ?_
      simp [d27r5]
      refine SatD.block ?_
      refine SatD.loop (fun y : Nat => ⟨DM.look [(2, .v (.box [ti nt, ti nn, ti ns, .sl (rulesT rules)])), (3, .v (.box [ti m, .sl (trsT ks)])), (6, .aref 1400 0), (7, .v (ti y))], obs [(1400, .arr 0 3 1 (intsT (yieldPs rules (ks.take y))))], 1600, 1000, []⟩)
        (fun y => y ≤ ks.length) (fun y => ks.length - y) 0 (Le.keep ?_ ?_ ?_ ?_) (by simp) (fun y hy => ?_)
      · simp
      · simp
      · simp [yieldPs, intsT]
      · simp
      refine SatD.seq ?_
      refine SatD.regSeq hΓ follows [2, 3, 6, 7, 24] ?_
      simp [d27r6]
      refine SatD.cond rfl (fun hcc => ?_) (fun hcc => ?_)
      · have hcc : y < ks.length := by simpa using hcc
        refine SatD.skip ?_
        simp
        refine SatD.seq ?_
        refine SatD.block ?_
        have ht := trsSz_take hcc
        have hp1 := yieldPs_take (rules := rules) hcc
        have hz := sz_getD hcc
        have htl2 := trsSz_take_le ks (y + 1)
        have hk1 := h4 y hcc
        have hp2 := yield_len rules (ks.getD y default)
        have hp3 := yields_len rules (ks.take y)
        obtain ⟨⟨ka, kl⟩, hk⟩ : ∃ k, ks.getD y default = k := ⟨_, rfl⟩
        rw [hk] at ht hz hp1 hk1 hp2
        have rr := rowAt_tr hcc hk
        obtain ⟨yl, hyl⟩ : ∃ yl, yieldP rules (.mk ka kl) = yl := ⟨_, rfl⟩
        rw [hyl] at hp1 hp2
        have hS : intsT (yieldPs rules (ks.take (y + 1))) = intsT (yieldPs rules (ks.take y)) ++ intsT yl := by rw [hp1, intsT_append]
        refine SatD.reg hΓ follows [2, 3, 6, 7] ?_
        simp [d27r7, hcc, rr, s27, roomOk, hyl]
        refine ⟨⟨_, _, ⟨rfl, rfl⟩, by omega, hk1⟩, ⟨rows_ints yl, by omega, by omega⟩, ?_⟩
        refine SatD.reg hΓ follows [2, 3, 6, 7] ?_
        simp [d27r8]
        rw [wrap_id (x := (y : Int) + 1) (by omega)]
        refine ⟨y + 1, Le.keep ?_ ?_ ?_ ?_, by omega, by omega⟩
        · simp
        · simp
        · simp [hS]
        · simp
      · have hy2 : y = ks.length := by simp at hcc; omega
        subst hy2
        rw [List.take_length]
        refine SatD.exit ?_
        simp
        refine SatD.regSeq hΓ follows [4] ?_
        simp [d27r9]
        refine SatD.ret ?_
        simp [d27res]

theorem validPs_iff (rules : List Rule) : ∀ (ts : List Int) (ks : List Tr), ts.length = ks.length → (validPs rules ts ks = true ↔ ∀ y, y < ts.length → validP rules (ts.getD y default) (ks.getD y default) = true)
  | [], [], _ => by simp [validPs]
  | [], _ :: _, h => by simp at h
  | _ :: _, [], h => by simp at h
  | t :: ts, k :: ks, h => by
    simp only [validPs, Bool.and_eq_true, validPs_iff rules ts ks (by simpa using h), List.length_cons]
    constructor
    · rintro ⟨h1, h2⟩ y hy
      cases y with
      | zero => simpa using h1
      | succ y => simpa using h2 y (by omega)
    · exact fun H => ⟨by simpa using H 0 (by omega), fun y hy => by simpa using H (y + 1) (by omega)⟩
theorem validP_iff {rules : List Rule} {h m : Int} {ks : List Tr} : validP rules h (.mk m ks) = true ↔ (0 ≤ m ∧ m < rules.length) ∧ (rules.getD m.toNat default).head = h ∧ ks.length = (kidsOf (rules.getD m.toNat default)).length ∧ ∀ y, y < (kidsOf (rules.getD m.toNat default)).length → validP rules ((kidsOf (rules.getD m.toNat default)).getD y default) (ks.getD y default) = true := by
  simp only [validP, Bool.and_eq_true, decide_eq_true_eq]
  constructor
  · rintro ⟨⟨⟨a, b⟩, c⟩, d⟩
    exact ⟨a, b, c, (validPs_iff rules _ _ c.symm).1 d⟩
  · rintro ⟨a, b, c, d⟩
    exact ⟨⟨⟨a, b⟩, c⟩, (validPs_iff rules _ _ c.symm).2 d⟩
theorem kidsOf_len (r : Rule) : (kidsOf r).length ≤ 2 := by unfold kidsOf; split <;> (try split) <;> simp
abbrev s42 : DM.Spec := specP (fun ts => ∃ a b c d e f, ts = [.agg [ti a, ti b, ti c, ti d, ti e, ti f]]) (fun | [.agg r] => .sl (intsT (kidsOf (decRule r))) | _ => .bool false) false
noncomputable def s24 (nt nn ns : Int) (rules : List Rule) (N : Nat) : DM.Spec := specP (fun ts => ∃ h a l, ts = [.agg [ti nt, ti nn, ti ns, .sl (rulesT rules)], ti h, .agg [ti a, .sl (trsT l)]] ∧ (Tr.mk a l).sz ≤ N) (fun | [.agg [_, _, _, .sl r], .int _ h, .agg d] => .bool (validP (decRules r) h (decTr d)) | _ => .bool false) true
set_option maxRecDepth 20000 in
set_option maxHeartbeats 8000000 in
theorem t24 (nt nn ns : Int) (rules : List Rule) : ∀ (N : Nat) (d : Tr) (h : Int), d.sz ≤ N → d.sz ≤ 1048576 → CallsOk Try.prog 24 [.agg [ti nt, ti nn, ti ns, .sl (rulesT rules)], ti h, .agg d.enc] (.bool (validP rules h d)) := by
  intro N
  induction N with
  | zero => intro d _ h; have := sz_pos d; omega
  | succ N ih =>
    rintro ⟨m, ks⟩ h h1 h2
    have hΓ : EnvOk Try.prog (envOf [(24, s24 nt nn ns rules (min N 1048576)), (42, s42)]) := by
      refine EnvOk.cons (EnvOk.cons EnvOk.nil ?_) ?_
      · rintro ts ⟨a, b, c, d, e, f, rfl⟩
        exact ⟨by simpa [Rule.enc, decRule, unti] using t42 ⟨a, b, c, d, e, f⟩, fun h => by cases h⟩
      · rintro ts ⟨h, a, l, rfl, hs⟩
        exact ⟨by simpa [s24, Tr.enc] using ih (.mk a l) h (by omega) (by omega), fun _ => rfl⟩
    obtain ⟨v, hv⟩ : ∃ v, validP rules h (.mk m ks) = v := ⟨_, rfl⟩
    have hval := validP_iff (rules := rules) (h := h) (m := m) (ks := ks)
    rw [hv] at hval ⊢
    have bad : ∀ {p : Prop}, (v = true → p) → ¬ p → v = false := fun h1 h2 => by cases v with | false => rfl | true => exact absurd (h1 rfl) h2
    simp only [Tr.sz] at h1 h2
    have hle := length_le_sz ks
    refine c24.ok (by simp) (initSt_sat ?_)
    simp [Tr.enc]
    refine SatD.regSeq hΓ follows [1, 3, 5] ?_
    simp [d24r0]
    refine SatD.le (Le.keep (o := []) (l := [(1, .v (ti h)), (3, .v (.box [ti nt, ti nn, ti ns, .sl (rulesT rules)])), (5, .v (.box [ti m, .sl (trsT ks)]))]) (nxt' := 1200) ?_ ?_ ?_ ?_) ?_
    · simp
    · simp
    · simp
    · simp
    refine SatD.seq ?_
    obtain ⟨c1, hc1⟩ : ∃ c1 : Bool, decide (m < 0 ∨ (rules.length : Int) ≤ m ∨ ¬ (rules.getD m.toNat default).head = h) = c1 := ⟨_, rfl⟩
    refine SatD.regToS hΓ follows [(3, .v (.box [ti nt, ti nn, ti ns, .sl (rulesT rules)])), (5, .v (.box [ti m, .sl (trsT ks)])), (30, .v (.bool c1))] ?_ ?_
    · by_cases q1 : m < 0
      · have : c1 = true := by rw [← hc1]; simp [q1]
        simp [d24r1, q1, this]
      · obtain ⟨m, rfl⟩ := Int.eq_ofNat_of_zero_le (show 0 ≤ m by omega)
        by_cases q2 : rules.length ≤ m
        · have : c1 = true := by rw [← hc1]; simp [q2]
          simp [d24r1, q1, q2, this]
        · obtain ⟨⟨rk, rh, ra, rb, rp, rg⟩, hrl⟩ : ∃ r, rules.getD m default = r := ⟨_, rfl⟩
          have rw1 := rowAt_tr' (by omega) hrl
          simp only [Int.toNat_natCast, hrl] at hc1
          have q4 : m < rules.length := by omega
          by_cases q3 : rh = h
          · have : c1 = false := by rw [← hc1]; simp [q2, q3]
            simp [d24r1, q1, q2, q3, q4, rw1, Rule.enc, this]
          · have : c1 = true := by rw [← hc1]; simp [q3]
            simp [d24r1, q1, q2, q3, q4, rw1, Rule.enc, this]
    refine SatD.cond rfl (fun g => ?_) (fun g => ?_)
    · rw [g] at hc1
      have hc1 := of_decide_eq_true hc1
      refine SatD.regSeq hΓ follows [6] ?_
      simp [d24r2]
      refine SatD.ret ?_
      rw [bad hval.1 (fun k => by have := k.1; have := k.2.1; omega)]
      simp [d24res]
    · rw [g] at hc1
      have hc1 := of_decide_eq_false hc1
      obtain ⟨m, rfl⟩ := Int.eq_ofNat_of_zero_le (show 0 ≤ m by omega)
      have m2 : m < rules.length := by omega
      simp only [Int.toNat_natCast] at hval hc1
      obtain ⟨⟨rk, rh, ra, rb, rp, rg⟩, hrl⟩ : ∃ r, rules.getD m default = r := ⟨_, rfl⟩
      have rw1 := rowAt_tr' m2 hrl
      rw [hrl] at hval hc1
      have hkl := kidsOf_len ⟨rk, rh, ra, rb, rp, rg⟩
      refine SatD.skip ?_
      simp
      refine SatD.regSeq hΓ follows [3, 5, 7] ?_
      simp [d24r3, m2, rw1, Rule.enc, decRule, unti]
      obtain ⟨kl, hkk⟩ : ∃ kl, kidsOf ⟨rk, rh, ra, rb, rp, rg⟩ = kl := ⟨_, rfl⟩
      rw [hkk] at hval hkl ⊢
      refine SatD.seq ?_
      refine SatD.regSeq hΓ follows [3, 5, 7, 43] ?_
      simp [d24r4]
      refine SatD.cond rfl (fun g4 => ?_) (fun g4 => ?_)
      · have g4 : ¬ ks.length = kl.length := by simp at g4; omega
        refine SatD.regSeq hΓ follows [6] ?_
        simp [d24r5]
        refine SatD.ret ?_
        rw [bad hval.1 (fun k => g4 k.2.2.1)]
        simp [d24res]
      · have g4 : ks.length = kl.length := by simp at g4; omega
        refine SatD.skip ?_
        simp
        refine SatD.seq ?_
        refine SatD.regSeq hΓ follows [3, 5, 7, 8] ?_
        simp [d24r6]
        refine SatD.block ?_
        refine SatD.loop (fun y : Nat => ⟨DM.look [(3, .v (.box [ti nt, ti nn, ti ns, .sl (rulesT rules)])), (5, .v (.box [ti m, .sl (trsT ks)])), (7, .v (.sl (intsT kl))), (8, .v (ti y))], obs [], 2000, 1000, []⟩)
          (fun y => y ≤ kl.length ∧ ∀ i, i < y → validP rules (kl.getD i default) (ks.getD i default) = true) (fun y => kl.length - y) 0 (Le.keep (o := []) ?_ ?_ ?_ ?_) (by simp) (fun y hy => ?_)
        · simp
        · simp
        · simp
        · simp
        obtain ⟨hy1, hy2⟩ := hy
        refine SatD.seq ?_
        refine SatD.regSeq hΓ follows [3, 5, 7, 8, 47] ?_
        simp [d24r7]
        refine SatD.cond rfl (fun hcc => ?_) (fun hcc => ?_)
        · have hcc : y < kl.length := by simpa using hcc
          refine SatD.skip ?_
          simp
          refine SatD.seq ?_
          refine SatD.block ?_
          have hcs : y < ks.length := by omega
          have hz := sz_getD hcs
          obtain ⟨⟨ka, ll⟩, hk⟩ : ∃ k, ks.getD y default = k := ⟨_, rfl⟩
          rw [hk] at hz
          have rr := rowAt_tr hcs hk
          have rr2 := rowAt_ints hcc
          obtain ⟨x, hx⟩ : ∃ x, kl.getD y default = x := ⟨_, rfl⟩
          rw [hx] at rr2
          refine SatD.regSeq hΓ follows [3, 5, 7, 8, 61] ?_
          simp [d24r8, hcc, hcs, rr, rr2, s24]
          refine ⟨⟨_, _, _, ⟨rfl, rfl, rfl⟩, by omega⟩, ?_⟩
          refine SatD.cond rfl (fun g8 => ?_) (fun g8 => ?_)
          · have g8 : validP rules x (.mk ka ll) = false := by simpa using g8
            refine SatD.regSeq hΓ follows [6] ?_
            simp [d24r9]
            refine SatD.ret ?_
            rw [bad hval.1 (fun k => by have := k.2.2.2 y hcc; rw [hx, hk, g8] at this; cases this)]
            simp [d24res]
          · have g8 : validP rules x (.mk ka ll) = true := by simpa using g8
            refine SatD.skip ?_
            simp
            refine SatD.reg hΓ follows [3, 5, 7, 8] ?_
            simp [d24r10]
            rw [wrap_id (x := (y : Int) + 1) (by omega)]
            refine ⟨y + 1, Le.keep (o := []) ?_ ?_ ?_ ?_, ⟨by omega, fun i hi => ?_⟩, by omega⟩
            · simp
            · simp
            · simp
            · simp
            · by_cases e : i = y
              · subst e; show validP rules (kl.getD i default) (ks.getD i default) = true; rw [hk, hx]; exact g8
              · exact hy2 i (by omega)
        · have hy3 : y = kl.length := by simp at hcc; omega
          subst hy3
          refine SatD.exit ?_
          simp
          refine SatD.regSeq hΓ follows [6] ?_
          simp [d24r11]
          refine SatD.ret ?_
          have : v = true := hval.2 ⟨by omega, by simp only at hc1 ⊢; omega, g4, hy2⟩
          rw [this]
          simp [d24res]
end Go.Proofs
/- Derivations: valid ones, their values and parses; paths. Conditions: none. -/
namespace Go.Proofs
open Go.DM Go.DM.Srt
set_option linter.unusedSimpArgs false
set_option linter.unusedVariables false

theorem validDs_iff (es : List Edge) : ∀ (ts : List Int) (ks : List Tr), ts.length = ks.length → (validDs es ts ks = true ↔ ∀ y, y < ks.length → validD es (ts.getD y default) (ks.getD y default) = true)
  | [], [], _ => by simp [validDs]
  | [], _ :: _, h => by simp at h
  | _ :: _, [], h => by simp at h
  | t :: ts, k :: ks, h => by
    simp only [validDs, Bool.and_eq_true, validDs_iff es ts ks (by simpa using h), List.length_cons]
    constructor
    · rintro ⟨h1, h2⟩ y hy
      cases y with
      | zero => simpa using h1
      | succ y => simpa using h2 y (by omega)
    · exact fun H => ⟨by simpa using H 0 (by omega), fun y hy => by simpa using H (y + 1) (by omega)⟩
theorem validD_iff {es : List Edge} {h m : Int} {ks : List Tr} : validD es h (.mk m ks) = true ↔ (0 ≤ m ∧ m < es.length) ∧ (es.getD m.toNat default).head = h ∧ ks.length = (es.getD m.toNat default).tails.length ∧ ∀ y, y < ks.length → validD es ((es.getD m.toNat default).tails.getD y default) (ks.getD y default) = true := by
  simp only [validD, Bool.and_eq_true, decide_eq_true_eq]
  constructor
  · rintro ⟨⟨a, b, c⟩, d⟩
    exact ⟨a, b, c, (validDs_iff es _ _ c.symm).1 d⟩
  · rintro ⟨a, b, c, d⟩
    exact ⟨⟨a, b, c⟩, (validDs_iff es _ _ c.symm).2 d⟩
theorem rowAt_edge {l : List Edge} {y : Nat} {r : Edge} (h : y < l.length) (e : l.getD y default = r) : DM.rowAt (edgesT l) y = r.enc := by rw [rowAt_edges h, e]
noncomputable def s21 (nd : Int) (es : List Edge) (N : Nat) : DM.Spec := specP (fun ts => ∃ h a l, ts = [.agg [ti nd, .sl (edgesT es)], ti h, .agg [ti a, .sl (trsT l)]] ∧ (Tr.mk a l).sz ≤ N) (fun | [.agg [_, .sl e], .int _ h, .agg d] => .bool (validD (decEdges e) h (decTr d)) | _ => .bool false) true
set_option maxRecDepth 20000 in
set_option maxHeartbeats 8000000 in
theorem t21 (nd : Int) (es : List Edge) : ∀ (N : Nat) (d : Tr) (h : Int), d.sz ≤ N → d.sz ≤ 1048576 → CallsOk Try.prog 21 [.agg [ti nd, .sl (edgesT es)], ti h, .agg d.enc] (.bool (validD es h d)) := by
  intro N
  induction N with
  | zero => intro d _ h; have := sz_pos d; omega
  | succ N ih =>
    rintro ⟨m, ks⟩ h h1 h2
    have hΓ : EnvOk Try.prog (envOf [(21, s21 nd es (min N 1048576))]) := by
      refine EnvOk.cons EnvOk.nil ?_
      rintro ts ⟨h, a, l, rfl, hs⟩
      exact ⟨by simpa [s21, Tr.enc] using ih (.mk a l) h (by omega) (by omega), fun _ => rfl⟩
    obtain ⟨v, hv⟩ : ∃ v, validD es h (.mk m ks) = v := ⟨_, rfl⟩
    have hval := validD_iff (es := es) (h := h) (m := m) (ks := ks)
    rw [hv] at hval ⊢
    have bad : ∀ {p : Prop}, (v = true → p) → ¬ p → v = false := fun h1 h2 => by cases v with | false => rfl | true => exact absurd (h1 rfl) h2
    simp only [Tr.sz] at h1 h2
    have hle := length_le_sz ks
    refine c21.ok (by simp) (initSt_sat ?_)
    simp [Tr.enc]
    refine SatD.regSeq hΓ follows [1, 3, 5] ?_
    simp [d21r0]
    refine SatD.le (Le.keep (o := []) (l := [(1, .v (ti h)), (3, .v (.box [ti nd, .sl (edgesT es)])), (5, .v (.box [ti m, .sl (trsT ks)]))]) (nxt' := 1200) ?_ ?_ ?_ ?_) ?_
    · simp
    · simp
    · simp
    · simp
    refine SatD.seq ?_
    obtain ⟨c1, hc1⟩ : ∃ c1 : Bool, decide (m < 0 ∨ (es.length : Int) ≤ m ∨ ¬ (es.getD m.toNat default).head = h ∨ ¬ ks.length = (es.getD m.toNat default).tails.length) = c1 := ⟨_, rfl⟩
    refine SatD.regToS hΓ follows [(3, .v (.box [ti nd, .sl (edgesT es)])), (5, .v (.box [ti m, .sl (trsT ks)])), (43, .v (.bool c1))] ?_ ?_
    · by_cases q1 : m < 0
      · have : c1 = true := by rw [← hc1]; simp [q1]
        simp [d21r1, q1, this]
      · obtain ⟨m, rfl⟩ := Int.eq_ofNat_of_zero_le (show 0 ≤ m by omega)
        by_cases q2 : es.length ≤ m
        · have : c1 = true := by rw [← hc1]; simp [q2]
          simp [d21r1, q1, q2, this]
        · obtain ⟨⟨eh, tl, ec, e0, e1⟩, hrl⟩ : ∃ r, es.getD m default = r := ⟨_, rfl⟩
          have rw1 := rowAt_edge (by omega) hrl
          simp only [Int.toNat_natCast, hrl] at hc1
          have q4 : m < es.length := by omega
          by_cases q3 : eh = h
          · by_cases q5 : ks.length = tl.length
            · have : c1 = false := by rw [← hc1]; simp [q2, q3, q5]
              simp [d21r1, q1, q2, q3, q4, q5, rw1, Edge.enc, this]
            · have : c1 = true := by rw [← hc1]; simp [q5]
              simp [d21r1, q1, q2, q3, q4, rw1, Edge.enc, this]
              omega
          · have : c1 = true := by rw [← hc1]; simp [q3]
            simp [d21r1, q1, q2, q3, q4, rw1, Edge.enc, this]
    refine SatD.cond rfl (fun g => ?_) (fun g => ?_)
    · rw [g] at hc1
      have hc1 := of_decide_eq_true hc1
      refine SatD.regSeq hΓ follows [6] ?_
      simp [d21r2]
      refine SatD.ret ?_
      rw [bad hval.1 (fun k => by have := k.1; have := k.2.1; have := k.2.2.1; omega)]
      simp [d21res]
    · rw [g] at hc1
      have hc1 := of_decide_eq_false hc1
      obtain ⟨m, rfl⟩ := Int.eq_ofNat_of_zero_le (show 0 ≤ m by omega)
      have m2 : m < es.length := by omega
      simp only [Int.toNat_natCast] at hval hc1
      obtain ⟨⟨eh, tl, ec, e0, e1⟩, hrl⟩ : ∃ r, es.getD m default = r := ⟨_, rfl⟩
      have rw1 := rowAt_edge m2 hrl
      rw [hrl] at hval hc1
      simp only at hval hc1
      have hkt : ks.length = tl.length := by omega
      refine SatD.skip ?_
      simp
      refine SatD.seq ?_
      refine SatD.regSeq hΓ follows [3, 5, 7] ?_
      simp [d21r3]
      refine SatD.block ?_
      refine SatD.loop (fun y : Nat => ⟨DM.look [(3, .v (.box [ti nd, .sl (edgesT es)])), (5, .v (.box [ti m, .sl (trsT ks)])), (7, .v (ti y))], obs [], 2000, 1000, []⟩)
        (fun y => y ≤ ks.length ∧ ∀ i, i < y → validD es (tl.getD i default) (ks.getD i default) = true) (fun y => ks.length - y) 0 (Le.keep (o := []) ?_ ?_ ?_ ?_) (by simp) (fun y hy => ?_)
      · simp
      · simp
      · simp
      · simp
      obtain ⟨hy1, hy2⟩ := hy
      refine SatD.seq ?_
      refine SatD.regSeq hΓ follows [3, 5, 7, 48] ?_
      simp [d21r4]
      refine SatD.cond rfl (fun hcc => ?_) (fun hcc => ?_)
      · have hcc : y < ks.length := by simpa using hcc
        refine SatD.skip ?_
        simp
        refine SatD.seq ?_
        refine SatD.block ?_
        have hcs : y < tl.length := by omega
        have hz := sz_getD hcc
        obtain ⟨⟨ka, ll⟩, hk⟩ : ∃ k, ks.getD y default = k := ⟨_, rfl⟩
        rw [hk] at hz
        have rr := rowAt_tr hcc hk
        have rr2 := rowAt_ints hcs
        obtain ⟨x, hx⟩ : ∃ x, tl.getD y default = x := ⟨_, rfl⟩
        rw [hx] at rr2
        refine SatD.regSeq hΓ follows [3, 5, 7, 68] ?_
        simp [d21r5, hcc, hcs, rr, rr2, m2, rw1, Edge.enc, s21]
        refine ⟨⟨_, _, _, ⟨rfl, rfl, rfl⟩, by omega⟩, ?_⟩
        refine SatD.cond rfl (fun g8 => ?_) (fun g8 => ?_)
        · have g8 : validD es x (.mk ka ll) = false := by simpa using g8
          refine SatD.regSeq hΓ follows [6] ?_
          simp [d21r6]
          refine SatD.ret ?_
          rw [bad hval.1 (fun k => by have := k.2.2.2 y hcc; rw [hx, hk, g8] at this; cases this)]
          simp [d21res]
        · have g8 : validD es x (.mk ka ll) = true := by simpa using g8
          refine SatD.skip ?_
          simp
          refine SatD.reg hΓ follows [3, 5, 7] ?_
          simp [d21r7]
          rw [wrap_id (x := (y : Int) + 1) (by omega)]
          refine ⟨y + 1, Le.keep (o := []) ?_ ?_ ?_ ?_, ⟨by omega, fun i hi => ?_⟩, by omega⟩
          · simp
          · simp
          · simp
          · simp
          · by_cases e : i = y
            · subst e; show validD es (tl.getD i default) (ks.getD i default) = true; rw [hk, hx]; exact g8
            · exact hy2 i (by omega)
      · have hy3 : y = ks.length := by simp at hcc; omega
        subst hy3
        refine SatD.exit ?_
        simp
        refine SatD.regSeq hΓ follows [6] ?_
        simp [d21r8]
        refine SatD.ret ?_
        have : v = true := hval.2 ⟨by omega, by omega, hkt, hy2⟩
        rw [this]
        simp [d21res]

theorem valDs_len (es : List Edge) : ∀ ks : List Tr, (valDs es ks).length = ks.length
  | [] => rfl
  | k :: ks => by simp only [valDs, List.length_cons, valDs_len es ks]
theorem valDs_map (es : List Edge) : ∀ ks : List Tr, valDs es ks = ks.map (valD es)
  | [] => rfl
  | k :: ks => by simp only [valDs, List.map_cons, valDs_map es ks]
def okCosts (es : List Edge) : Prop := ∀ e ∈ es, 0 ≤ e.cost ∧ e.cost ≤ 1099511627776
theorem cost_range {es : List Edge} (h : okCosts es) (k : Nat) : 0 ≤ (es.getD k default).cost ∧ (es.getD k default).cost ≤ 1099511627776 := by
  by_cases hk : k < es.length
  · exact h _ (getD_mem hk)
  · rw [show es.getD k default = default by simp [List.getD, hk]]; exact ⟨by decide, by decide⟩
mutual
theorem valD_ok {es : List Edge} (h : okCosts es) : ∀ d : Tr, okV (valD es d)
  | .mk n ks => by
    simp only [valD]
    exact combV_ok (cost_range h _) (valDs_ok h ks)
theorem valDs_ok {es : List Edge} (h : okCosts es) : ∀ ks : List Tr, ∀ v ∈ valDs es ks, okV v
  | [], _, hv => by simp [valDs] at hv
  | k :: ks, v, hv => by
    simp only [valDs, List.mem_cons] at hv
    rcases hv with rfl | hv
    · exact valD_ok h k
    · exact valDs_ok h ks v hv
end
/-- The numbers stand for hyperedges with as many tails. -/
def okD (es : List Edge) (d : Tr) : Prop := ∃ h, validD es h d = true
theorem okD_mk {es : List Edge} {m : Int} {ks : List Tr} (h : okD es (.mk m ks)) : (0 ≤ m ∧ m < es.length) ∧ ks.length = (es.getD m.toNat default).tails.length ∧ ∀ y, y < ks.length → okD es (ks.getD y default) := by
  obtain ⟨hd, h⟩ := h
  obtain ⟨a, _, b, c⟩ := validD_iff.1 h
  exact ⟨a, b, fun y hy => ⟨_, c y hy⟩⟩
abbrev s41 : DM.Spec := specP (fun ts => ∃ c l, ts = [ti c, .sl (valsT l)] ∧ (0 ≤ c ∧ c ≤ 1099511627776) ∧ (∀ v ∈ l, okV v) ∧ l.length ≤ 9223372036854775807) (fun | [.int _ c, .sl l] => .agg (valT (combV c (decVals l))) | _ => .bool false) true
noncomputable def s22 (nd : Int) (es : List Edge) (N : Nat) : DM.Spec := specP (fun ts => ∃ a l, ts = [.agg [ti nd, .sl (edgesT es)], .agg [ti a, .sl (trsT l)]] ∧ (Tr.mk a l).sz ≤ N ∧ okD es (.mk a l)) (fun | [.agg [_, .sl e], .agg d] => .agg (valT (valD (decEdges e) (decTr d))) | _ => .bool false) true
set_option maxRecDepth 20000 in
set_option maxHeartbeats 8000000 in
theorem t22 (nd : Int) (es : List Edge) (hc : okCosts es) : ∀ (N : Nat) (d : Tr), d.sz ≤ N → d.sz ≤ 1048576 → okD es d → CallsOk Try.prog 22 [.agg [ti nd, .sl (edgesT es)], .agg d.enc] (.agg (valT (valD es d))) := by
  intro N
  induction N with
  | zero => intro d h; have := sz_pos d; omega
  | succ N ih =>
    rintro ⟨m, ks⟩ h1 h2 h3
    have hΓ : EnvOk Try.prog (envOf [(22, s22 nd es (min N 1048576)), (41, s41)]) := by
      refine EnvOk.cons (EnvOk.cons EnvOk.nil ?_) ?_
      · rintro ts ⟨c, l, rfl, h1, h2, h3⟩
        exact ⟨by simpa using t41 c l h1 h2 h3, fun _ => rfl⟩
      · rintro ts ⟨a, l, rfl, hs, hk⟩
        exact ⟨by simpa [s22, Tr.enc] using ih (.mk a l) (by omega) (by omega) hk, fun _ => rfl⟩
    obtain ⟨⟨m1, m2⟩, _, h4⟩ := okD_mk h3
    obtain ⟨m, rfl⟩ := Int.eq_ofNat_of_zero_le m1
    have m2 : m < es.length := by omega
    obtain ⟨⟨eh, tl, ec, e0, e1⟩, hrl⟩ : ∃ r, es.getD m default = r := ⟨_, rfl⟩
    have rw1 := rowAt_edge m2 hrl
    have hec := cost_range hc m
    rw [hrl] at hec
    simp only at hec
    have hval : valD es (.mk m ks) = combV ec (valDs es ks) := by simp only [valD, Int.toNat_natCast, hrl]
    rw [hval]
    have hok := valDs_ok hc ks
    have hln := valDs_len es ks
    have htk : ∀ y, (valDs es ks).take y = valDs es (ks.take y) := fun y => by rw [valDs_map, valDs_map, List.map_take]
    simp only [Tr.sz] at h1 h2
    have hle := length_le_sz ks
    refine c22.ok (by simp) (initSt_sat ?_)
    simp [Tr.enc]
    refine SatD.regSeq hΓ follows [2, 3, 4] ?_
    simp [d22r0]
    refine SatD.le (Le.keep (o := [(1005, .box [.v (ti 0), .v (ti 0)])]) (l := [(2, .v (.box [ti nd, .sl (edgesT es)])), (3, .v (.box [ti m, .sl (trsT ks)])), (4, .ptr 1005 0)]) (nxt' := 1200) ?_ ?_ ?_ ?_) ?_
    · simp
    · simp
    · simp
    · simp
    refine SatD.regSeq hΓ follows [2, 3, 4, 5] ?_
    simp [d22r1]
    refine SatD.le (Le.keep (o := [(1005, .box [.v (ti 0), .v (ti 0)])]) (l := [(2, .v (.box [ti nd, .sl (edgesT es)])), (3, .v (.box [ti m, .sl (trsT ks)])), (4, .ptr 1005 0), (5, .nil0)]) (nxt' := 1400) ?_ ?_ ?_ ?_) ?_
    · simp
    · simp
    · simp
    · simp
    refine SatD.le (Le.nilSlot (k := 5) 54 (sz := 2) (by omega) (by simp)) ?_
    rw [obs_setO]
    refine SatD.seq ?_
    refine SatD.regSeq hΓ follows [2, 3, 4, 5, 6] ?_
    simp [d22r2]
    refine SatD.block ?_
    refine SatD.loop (fun y : Nat => ⟨DM.look [(2, .v (.box [ti nd, .sl (edgesT es)])), (3, .v (.box [ti m, .sl (trsT ks)])), (4, .ptr 1005 0), (5, .aref 1400 0), (6, .v (ti y))], obs [(1005, .box [.v (ti 0), .v (ti 0)]), (1400, .arr 0 54 2 (valsT (valDs es (ks.take y))))], 1600, 1000, []⟩)
      (fun y => y ≤ ks.length) (fun y => ks.length - y) 0 (Le.keep ?_ ?_ ?_ ?_) (by simp) (fun y hy => ?_)
    · simp
    · simp
    · simp [valDs, valsT]
    · simp
    refine SatD.seq ?_
    refine SatD.regSeq hΓ follows [2, 3, 4, 5, 6, 11] ?_
    simp [d22r3]
    refine SatD.cond rfl (fun hcc => ?_) (fun hcc => ?_)
    · have hcc : y < ks.length := by simpa using hcc
      refine SatD.skip ?_
      simp
      refine SatD.seq ?_
      refine SatD.block ?_
      have hk1 := h4 y hcc
      have hz := sz_getD hcc
      obtain ⟨⟨ka, kl⟩, hk⟩ : ∃ k, ks.getD y default = k := ⟨_, rfl⟩
      rw [hk] at hk1 hz
      have rr := rowAt_tr hcc hk
      obtain ⟨x, hx⟩ : ∃ x, valD es (.mk ka kl) = x := ⟨_, rfl⟩
      have hS : valsT (valDs es (ks.take (y + 1))) = valsT (valDs es (ks.take y)) ++ [[ti x.1, ti x.2]] := by
        rw [valDs_map, valDs_map, take_succ_getD hcc, hk, List.map_append, List.map_cons, List.map_nil, hx, valsT, List.map_append]; rfl
      have hl3 : (valDs es (ks.take y)).length ≤ ks.length := by rw [valDs_len, List.length_take]; omega
      refine SatD.reg hΓ follows [2, 3, 4, 5, 6] ?_
      simp [d22r4, hcc, rr, s22, roomOk, hx, valT, chunk]
      refine ⟨⟨_, _, ⟨rfl, rfl⟩, by omega, hk1⟩, ?_⟩
      repeat (refine ⟨by omega, ?_⟩)
      refine SatD.reg hΓ follows [2, 3, 4, 5, 6] ?_
      simp [d22r5]
      rw [wrap_id (x := (y : Int) + 1) (by omega)]
      refine ⟨y + 1, Le.keep ?_ ?_ ?_ ?_, by omega, by omega⟩
      · simp
      · simp
      · simp [hS]
      · simp
    · have hy2 : y = ks.length := by simp at hcc; omega
      subst hy2
      rw [List.take_length]
      refine SatD.exit ?_
      simp
      refine SatD.regSeq hΓ follows [4] ?_
      simp [d22r6, m2, rw1, Edge.enc, valT]
      refine ⟨⟨_, _, ⟨rfl, rfl⟩, hec, fun a b hv => hok (a, b) hv, by omega⟩, ?_⟩
      refine SatD.ret ?_
      simp [d22res, valT]

theorem parseDs_append (es : List Edge) (rules : List Rule) : ∀ a b : List Tr, parseDs es rules (a ++ b) = ((parseDs es rules a).1 ++ (parseDs es rules b).1, (parseDs es rules a).2 ++ (parseDs es rules b).2)
  | [], b => by simp [parseDs]
  | x :: a, b => by simp only [List.cons_append, parseDs, parseDs_append es rules a b, List.append_assoc]
theorem parseDs_take {es : List Edge} {rules : List Rule} {l : List Tr} {y : Nat} {k : Tr} (h : y < l.length) (e : l.getD y default = k) : parseDs es rules (l.take (y + 1)) = ((parseDs es rules (l.take y)).1 ++ [(parseD es rules k).1], (parseDs es rules (l.take y)).2 ++ (parseD es rules k).2) := by
  rw [take_succ_getD h, parseDs_append, e]; simp [parseDs]
theorem parseDs_fst (es : List Edge) (rules : List Rule) : ∀ l : List Tr, (parseDs es rules l).1 = l.map fun k => (parseD es rules k).1
  | [] => rfl
  | k :: l => by simp only [parseDs, List.map_cons, parseDs_fst es rules l]
mutual
theorem parse_size (es : List Edge) (rules : List Rule) : ∀ d : Tr, (parseD es rules d).1.sz = d.sz ∧ (parseD es rules d).2.length ≤ d.sz
  | .mk n ks => by
    have := parses_size es rules ks
    simp only [parseD, Tr.sz, List.length_append]
    have : (termArc rules (es.getD n.toNat default)).length ≤ 1 := by unfold termArc; split <;> simp
    omega
theorem parses_size (es : List Edge) (rules : List Rule) : ∀ l : List Tr, trsSz (parseDs es rules l).1 = trsSz l ∧ (parseDs es rules l).2.length ≤ trsSz l
  | [] => by simp [parseDs, trsSz]
  | k :: l => by
    have := parse_size es rules k
    have := parses_size es rules l
    simp only [parseDs, trsSz, List.length_append]; omega
end
theorem trsT_append (a b : List Tr) : trsT (a ++ b) = trsT a ++ trsT b := by simp [trsT_map]
theorem rows_trs (l : List Tr) : ∀ x ∈ trsT l, x.length = 2 := by
  intro x hx
  rw [trsT_map] at hx
  simp only [List.mem_map] at hx
  obtain ⟨⟨a, k⟩, _, rfl⟩ := hx
  rw [Tr.enc]; rfl
noncomputable def s23 (nt nn ns nd : Int) (rules : List Rule) (es : List Edge) (N : Nat) : DM.Spec := specP (fun ts => ∃ a l, ts = [.agg [ti nt, ti nn, ti ns, .sl (rulesT rules)], .agg [ti nd, .sl (edgesT es)], .agg [ti a, .sl (trsT l)]] ∧ (Tr.mk a l).sz ≤ N ∧ okD es (.mk a l) ∧ okP rules (parseD es rules (.mk a l)).1) (fun | [.agg [_, _, _, .sl r], .agg [_, .sl e], .agg d] => .tup [.agg (parseD (decEdges e) (decRules r) (decTr d)).1.enc, .sl (intsT (parseD (decEdges e) (decRules r) (decTr d)).2)] | _ => .bool false) false
set_option maxRecDepth 20000 in
set_option maxHeartbeats 8000000 in
theorem t23 (nt nn ns nd : Int) (rules : List Rule) (es : List Edge) : ∀ (N : Nat) (d : Tr), d.sz ≤ N → d.sz ≤ 1048576 → okD es d → okP rules (parseD es rules d).1 →
    CallsOk Try.prog 23 [.agg [ti nt, ti nn, ti ns, .sl (rulesT rules)], .agg [ti nd, .sl (edgesT es)], .agg d.enc] (.tup [.agg (parseD es rules d).1.enc, .sl (intsT (parseD es rules d).2)]) := by
  intro N
  induction N with
  | zero => intro d h; have := sz_pos d; omega
  | succ N ih =>
    rintro ⟨m, ks⟩ h1 h2 h3 h5
    have hΓ : EnvOk Try.prog (envOf [(23, s23 nt nn ns nd rules es (min N 1048576))]) := by
      refine EnvOk.cons EnvOk.nil ?_
      rintro ts ⟨a, l, rfl, hs, hk, hk2⟩
      exact ⟨by simpa [s23, Tr.enc] using ih (.mk a l) (by omega) (by omega) hk hk2, fun h => by cases h⟩
    obtain ⟨⟨m1, m2⟩, _, h4⟩ := okD_mk h3
    obtain ⟨m, rfl⟩ := Int.eq_ofNat_of_zero_le m1
    have m2 : m < es.length := by omega
    obtain ⟨⟨eh, tl, ec, e0, e1⟩, hrl⟩ : ∃ r, es.getD m default = r := ⟨_, rfl⟩
    have rw1 := rowAt_edge m2 hrl
    have hpz : parseD es rules (.mk m ks) = (.mk e0 (parseDs es rules ks).1, termArc rules ⟨eh, tl, ec, e0, e1⟩ ++ (parseDs es rules ks).2) := by simp only [parseD, Int.toNat_natCast, hrl]
    rw [hpz] at h5 ⊢
    obtain ⟨⟨p1, p2⟩, _, h6⟩ := okP_mk h5
    rw [parseDs_fst, List.length_map] at h6
    have h6 : ∀ y, y < ks.length → okP rules (parseD es rules (ks.getD y default)).1 := fun y hy => by have := h6 y hy; simpa [List.getD, hy] using this
    obtain ⟨e0, rfl⟩ := Int.eq_ofNat_of_zero_le p1
    have p2 : e0 < rules.length := by omega
    obtain ⟨⟨rk, rh, ra, rb, rp, rg⟩, hrr⟩ : ∃ r, rules.getD e0 default = r := ⟨_, rfl⟩
    have rw2 := rowAt_tr' p2 hrr
    obtain ⟨ta, hta⟩ : ∃ ta : List Int, termArc rules ⟨eh, tl, ec, (e0 : Int), e1⟩ = ta := ⟨_, rfl⟩
    rw [hta]
    have hta : (if rk = 2 then [e1] else []) = ta := by rw [← hta]; unfold termArc; simp only [Int.toNat_natCast, hrr]
    simp only
    have htl : ta.length ≤ 1 := by rw [← hta]; split <;> simp
    simp only [Tr.sz] at h1 h2
    have hle := length_le_sz ks
    refine c23.ok (by simp) (initSt_sat ?_)
    simp [Tr.enc]
    refine SatD.regSeq hΓ follows [3, 4, 5, 6] ?_
    simp [d23r0]
    refine SatD.le (Le.keep (o := [(1007, .box [.v (ti 0), .nil0])]) (l := [(3, .v (.box [ti nt, ti nn, ti ns, .sl (rulesT rules)])), (4, .v (.box [ti nd, .sl (edgesT es)])), (5, .v (.box [ti m, .sl (trsT ks)])), (6, .ptr 1007 0)]) (nxt' := 1200) ?_ ?_ ?_ ?_) ?_
    · simp
    · simp
    · simp
    · simp
    refine SatD.regSeq hΓ follows [3, 4, 5, 6, 8] ?_
    simp [d23r1, m2, rw1, Edge.enc]
    refine SatD.le (Le.keep (o := [(1007, .box [.v (ti 0), .nil0])]) (l := [(3, .v (.box [ti nt, ti nn, ti ns, .sl (rulesT rules)])), (4, .v (.box [ti nd, .sl (edgesT es)])), (5, .v (.box [ti m, .sl (trsT ks)])), (6, .ptr 1007 0), (8, .v (.box [ti e0, ti e1]))]) (nxt' := 1300) ?_ ?_ ?_ ?_) ?_
    · simp
    · simp
    · simp
    · simp
    refine SatD.regSeq hΓ follows [3, 4, 5, 6, 8, 9] ?_
    simp [d23r2]
    refine SatD.le (Le.keep (o := [(1007, .box [.v (ti 0), .nil0]), (1310, .box [.v (ti e0), .nil0])]) (l := [(3, .v (.box [ti nt, ti nn, ti ns, .sl (rulesT rules)])), (4, .v (.box [ti nd, .sl (edgesT es)])), (5, .v (.box [ti m, .sl (trsT ks)])), (6, .ptr 1007 0), (8, .v (.box [ti e0, ti e1])), (9, .ptr 1310 0)]) (nxt' := 1400) ?_ ?_ ?_ ?_) ?_
    · simp
    · simp
    · simp
    · simp
    refine SatD.le (Le.nilCell 1310 1 58 (sz := 2) (cs := [.v (ti e0), .nil0]) (by omega) (by simp) rfl) ?_
    rw [obs_setO, obs_setO]
    refine SatD.le (Le.keep (o := [(1007, .box [.v (ti 0), .nil0]), (1310, .box [.v (ti e0), .aref 1400 0]), (1400, .arr 0 58 2 [])]) (l := [(3, .v (.box [ti nt, ti nn, ti ns, .sl (rulesT rules)])), (4, .v (.box [ti nd, .sl (edgesT es)])), (5, .v (.box [ti m, .sl (trsT ks)])), (6, .ptr 1007 0), (8, .v (.box [ti e0, ti e1])), (9, .ptr 1310 0)]) (nxt' := 1500) ?_ ?_ ?_ ?_) ?_
    · simp
    · simp
    · simp
    · simp
    refine SatD.regSeq hΓ follows [3, 4, 5, 6, 8, 9, 10] ?_
    simp [d23r3]
    refine SatD.le (Le.keep (o := [(1007, .box [.v (ti 0), .nil0]), (1310, .box [.v (ti e0), .aref 1400 0]), (1400, .arr 0 58 2 [])]) (l := [(3, .v (.box [ti nt, ti nn, ti ns, .sl (rulesT rules)])), (4, .v (.box [ti nd, .sl (edgesT es)])), (5, .v (.box [ti m, .sl (trsT ks)])), (6, .ptr 1007 0), (8, .v (.box [ti e0, ti e1])), (9, .ptr 1310 0), (10, .nil0)]) (nxt' := 1600) ?_ ?_ ?_ ?_) ?_
    · simp
    · simp
    · simp
    · simp
    refine SatD.le (Le.nilSlot (k := 10) 3 (sz := 1) (by omega) (by simp)) ?_
    rw [obs_setO]
    refine SatD.seq ?_
    refine SatD.regSeq hΓ follows [3, 4, 5, 6, 8, 9, 10, 31] ?_
    simp [d23r4, p2, rw2, Rule.enc]
    refine SatD.to ⟨DM.look [(3, .v (.box [ti nt, ti nn, ti ns, .sl (rulesT rules)])), (4, .v (.box [ti nd, .sl (edgesT es)])), (5, .v (.box [ti m, .sl (trsT ks)])), (6, .ptr 1007 0), (9, .ptr 1310 0), (10, .aref 1600 0)], obs [(1007, .box [.v (ti 0), .nil0]), (1310, .box [.v (ti e0), .aref 1400 0]), (1400, .arr 0 58 2 ([])), (1600, .arr 0 3 1 (intsT ta))], 2000, 1000, []⟩ ?_ ?_
    · refine SatD.cond rfl (fun g => ?_) (fun g => ?_)
      · have g : rk = 2 := by simpa using g
        rw [if_pos g] at hta
        subst hta
        refine SatD.reg hΓ follows [3, 4, 5, 6, 9, 10] ?_
        simp [d23r5, chunk, roomOk]
        exact Le.keep (by simp) (by simp) (by simp [intsT]) (by simp)
      · have g : ¬ rk = 2 := by simpa using g
        rw [if_neg g] at hta
        subst hta
        refine SatD.skip ?_
        simp
        exact Le.keep (by simp) (by simp) (by simp [intsT]) (by simp)
    refine SatD.seq ?_
    refine SatD.regSeq hΓ follows [3, 4, 5, 6, 9, 10, 11] ?_
    simp [d23r6]
    refine SatD.block ?_
    refine SatD.loop (fun y : Nat => ⟨DM.look [(3, .v (.box [ti nt, ti nn, ti ns, .sl (rulesT rules)])), (4, .v (.box [ti nd, .sl (edgesT es)])), (5, .v (.box [ti m, .sl (trsT ks)])), (6, .ptr 1007 0), (9, .ptr 1310 0), (10, .aref 1600 0), (11, .v (ti y))], obs [(1007, .box [.v (ti 0), .nil0]), (1310, .box [.v (ti e0), .aref 1400 0]), (1400, .arr 0 58 2 (trsT (parseDs es rules (ks.take y)).1)), (1600, .arr 0 3 1 (intsT (ta ++ (parseDs es rules (ks.take y)).2)))], 2200, 1000, []⟩)
      (fun y => y ≤ ks.length) (fun y => ks.length - y) 0 (Le.keep ?_ ?_ ?_ ?_) (by simp) (fun y hy => ?_)
    · simp
    · simp
    · simp [parseDs, trsT]
    · simp
    refine SatD.seq ?_
    refine SatD.regSeq hΓ follows [3, 4, 5, 6, 9, 10, 11, 41] ?_
    simp [d23r7]
    refine SatD.cond rfl (fun hcc => ?_) (fun hcc => ?_)
    · have hcc : y < ks.length := by simpa using hcc
      refine SatD.skip ?_
      simp
      refine SatD.seq ?_
      refine SatD.block ?_
      have hk1 := h4 y hcc
      have hk2 := h6 y hcc
      have hz := sz_getD hcc
      obtain ⟨⟨ka, kl⟩, hk⟩ : ∃ k, ks.getD y default = k := ⟨_, rfl⟩
      rw [hk] at hk1 hk2 hz
      have rr := rowAt_tr hcc hk
      have hsz := parse_size es rules (.mk ka kl)
      have hszs := parses_size es rules (ks.take y)
      have htl2 := trsSz_take_le ks y
      have hS := parseDs_take (es := es) (rules := rules) hcc hk
      obtain ⟨⟨⟨pa, pl⟩, ar⟩, hp⟩ : ∃ p, parseD es rules (.mk ka kl) = p := ⟨_, rfl⟩
      rw [hp] at hS hsz
      simp only at hS hsz
      have hps := length_le_sz (parseDs es rules (ks.take y)).1
      have hS1 : trsT (parseDs es rules (ks.take (y + 1))).1 = trsT (parseDs es rules (ks.take y)).1 ++ [[ti pa, .sl (trsT pl)]] := by rw [hS, trsT_append]; simp [trsT, Tr.enc]
      have hS2 : intsT (ta ++ (parseDs es rules (ks.take (y + 1))).2) = intsT (ta ++ (parseDs es rules (ks.take y)).2) ++ intsT ar := by rw [hS, ← List.append_assoc, intsT_append]
      refine SatD.regSeq hΓ follows [3, 4, 5, 6, 9, 10, 11, 12, 13] ?_
      simp [d23r8, hcc, rr, s23, hp, Tr.enc]
      refine ⟨⟨_, _, ⟨rfl, rfl⟩, by omega, hk1, hk2⟩, ?_⟩
      refine SatD.le (Le.keep (o := [(1007, .box [.v (ti 0), .nil0]), (1310, .box [.v (ti e0), .aref 1400 0]), (1400, .arr 0 58 2 (trsT (parseDs es rules (ks.take y)).1)), (1600, .arr 0 3 1 (intsT (ta ++ (parseDs es rules (ks.take y)).2)))]) (l := [(3, .v (.box [ti nt, ti nn, ti ns, .sl (rulesT rules)])), (4, .v (.box [ti nd, .sl (edgesT es)])), (5, .v (.box [ti m, .sl (trsT ks)])), (6, .ptr 1007 0), (9, .ptr 1310 0), (10, .aref 1600 0), (11, .v (ti y)), (12, .v (.box [ti pa, .sl (trsT pl)])), (13, .v (.sl (intsT ar)))]) (nxt' := 2400) ?_ ?_ ?_ ?_) ?_
      · simp
      · simp
      · simp
      · simp
      refine SatD.regSeq hΓ follows [3, 4, 5, 6, 9, 10, 11, 13] ?_
      simp [d23r9, chunk, roomOk, rows_trs]
      refine ⟨⟨by omega, by omega⟩, ?_⟩
      refine SatD.reg hΓ follows [3, 4, 5, 6, 9, 10, 11] ?_
      simp [d23r10, roomOk]
      refine ⟨⟨rows_ints ar, by omega, by omega⟩, ?_⟩
      refine SatD.reg hΓ follows [3, 4, 5, 6, 9, 10, 11] ?_
      simp [d23r11]
      rw [wrap_id (x := (y : Int) + 1) (by omega)]
      refine ⟨y + 1, Le.keep ?_ ?_ ?_ ?_, by omega, by omega⟩
      · simp
      · simp
      · simp [hS1, hS2]
      · simp
    · have hy2 : y = ks.length := by simp at hcc; omega
      subst hy2
      rw [List.take_length]
      refine SatD.exit ?_
      simp
      refine SatD.regSeq hΓ follows [6, 7] ?_
      simp [d23r12]
      refine SatD.ret ?_
      simp [d23res]

def stP (arcs : List Arc) (is : List Int) (y : Nat) : Int × Int := (pathL arcs 0 0 (is.take y)).getD (0, 0)
theorem pathL_append (arcs : List Arc) : ∀ (a b : List Int) (s c : Int), pathL arcs s c (a ++ b) = (pathL arcs s c a).bind fun q => pathL arcs q.1 q.2 b
  | [], b, s, c => rfl
  | i :: a, b, s, c => by
    simp only [List.cons_append, pathL]
    split
    · rfl
    · exact pathL_append arcs a b _ _
theorem addS_ok {a b : Int} (h1 : 0 ≤ a ∧ a ≤ 1099511627776) (h2 : 0 ≤ b) : 0 ≤ addS a b ∧ addS a b ≤ 1099511627776 := by
  unfold addS; simp only [Inf]; split <;> omega
theorem pathL_ok {arcs : List Arc} (ha : ∀ a ∈ arcs, 0 ≤ a.cost ∧ 0 ≤ a.t) : ∀ (is : List Int) (s c : Int) (q : Int × Int), pathL arcs s c is = some q → 0 ≤ s → 0 ≤ c ∧ c ≤ 1099511627776 → 0 ≤ q.1 ∧ 0 ≤ q.2 ∧ q.2 ≤ 1099511627776
  | [], s, c, q, h, hs, hc => by simp only [pathL, Option.some.injEq] at h; subst h; exact ⟨hs, hc⟩
  | i :: is, s, c, q, h, hs, hc => by
    simp only [pathL] at h
    split at h
    · cases h
    · have := ha (arcs.getD i.toNat default) (getD_mem (by omega))
      exact pathL_ok ha is _ _ q h this.2 (addS_ok hc this.1)
theorem stP_step {arcs : List Arc} (ha : ∀ a ∈ arcs, 0 ≤ a.cost ∧ 0 ≤ a.t) {is : List Int} {q : Int × Int} (h : pathL arcs 0 0 is = some q) {y : Nat} (hy : y < is.length) :
    ∃ k : Nat, is.getD y default = k ∧ k < arcs.length ∧ (arcs.getD k default).f = (stP arcs is y).1 ∧ stP arcs is (y + 1) = ((arcs.getD k default).t, addS (stP arcs is y).2 (arcs.getD k default).cost) ∧ 0 ≤ (stP arcs is y).2 ∧ (stP arcs is y).2 ≤ 1099511627776 := by
  have h0 := h
  rw [← List.take_append_drop y is, pathL_append] at h0
  obtain ⟨st, h1, h2⟩ := Option.bind_eq_some_iff.1 h0
  have hs : stP arcs is y = st := by unfold stP; rw [h1]; rfl
  have hok := pathL_ok ha _ _ _ _ h1 (by omega) (by omega)
  have hd : is.drop y = is.getD y default :: is.drop (y + 1) := by rw [List.drop_eq_getElem_cons hy]; simp [List.getD, hy]
  rw [hd] at h2
  simp only [pathL] at h2
  split at h2
  · cases h2
  · rename_i hn
    refine ⟨(is.getD y default).toNat, by omega, by omega, ?_, ?_, ?_⟩
    · rw [hs]; omega
    · have hx : stP arcs is (y + 1) = (pathL arcs st.1 st.2 [is.getD y default]).getD (0, 0) := by
        unfold stP; rw [take_succ_getD hy, pathL_append, h1]; rfl
      rw [hx, hs]
      simp only [pathL]
      rw [if_neg hn]; rfl
    · rw [hs]; exact hok.2
abbrev s43 : DM.Spec := specP (fun ts => ∃ a b, ts = [ti a, ti b] ∧ (0 ≤ a ∧ a ≤ 1099511627776) ∧ (0 ≤ b ∧ b ≤ 1099511627776)) (fun | [.int _ a, .int _ b] => ti (addS a b) | _ => .bool false) true
theorem rowAt_arc {l : List Arc} {y : Nat} {r : Arc} (h : y < l.length) (e : l.getD y default = r) : DM.rowAt (arcsT l) y = r.enc := by rw [rowAt_arcs h, e]
set_option maxRecDepth 20000 in
set_option maxHeartbeats 8000000 in
theorem t25 (st : Int) (arcs : List Arc) (fin is : List Int) (ha : ∀ a ∈ arcs, (0 ≤ a.cost ∧ 0 ≤ a.t) ∧ a.cost ≤ 1099511627776) (hl : is.length ≤ 9223372036854775807) {t : Nat} {c : Int} (h : pathL arcs 0 0 is = some ((t : Int), c)) (ht : t < fin.length) (hf : 0 ≤ fin.getD t default ∧ fin.getD t default < 1099511627776) :
    CallsOk Try.prog 25 [.agg [ti st, .sl (arcsT arcs), .sl (intsT fin)], .sl (intsT is)] (.tup [ti t, ti (addS c (fin.getD t default)), .bool true]) := by
  have hΓ : EnvOk Try.prog (envOf [(43, s43)]) := by
    refine EnvOk.cons EnvOk.nil ?_
    rintro ts ⟨a, b, rfl, h1, h2⟩
    exact ⟨t43 a b h1 h2, fun _ => rfl⟩
  have hst := fun y hy => stP_step (fun a h => (ha a h).1) h (y := y) hy
  have hend : stP arcs is is.length = ((t : Int), c) := by unfold stP; rw [List.take_length, h]; rfl
  have hcok := pathL_ok (fun a h => (ha a h).1) _ _ _ _ h (by omega) (by omega)
  simp only at hcok
  have rf := rowAt_ints ht
  obtain ⟨f, hfe⟩ : ∃ f, fin.getD t default = f := ⟨_, rfl⟩
  rw [hfe] at hf rf ⊢
  refine c25.ok (by simp) (initSt_sat ?_)
  simp
  refine SatD.regSeq hΓ follows [1, 2] ?_
  simp [d25r0]
  refine SatD.le (Le.keep (o := []) (l := [(1, .v (.sl (intsT is))), (2, .v (.box [ti st, .sl (arcsT arcs), .sl (intsT fin)]))]) (nxt' := 1200) ?_ ?_ ?_ ?_) ?_
  · simp
  · simp
  · simp
  · simp
  refine SatD.regSeq hΓ follows [1, 2, 7] ?_
  simp [d25r1]
  refine SatD.regSeq hΓ follows [1, 2, 7, 8] ?_
  simp [d25r2]
  refine SatD.seq ?_
  refine SatD.regSeq hΓ follows [1, 2, 7, 8, 9] ?_
  simp [d25r3]
  refine SatD.block ?_
  refine SatD.loop (fun y : Nat => ⟨DM.look [(1, .v (.sl (intsT is))), (2, .v (.box [ti st, .sl (arcsT arcs), .sl (intsT fin)])), (7, .v (ti (stP arcs is y).1)), (8, .v (ti (stP arcs is y).2)), (9, .v (ti y))], obs [], 2000, 1000, []⟩)
    (fun y => y ≤ is.length) (fun y => is.length - y) 0 (Le.keep (o := []) ?_ ?_ ?_ ?_) (by simp) (fun y hy => ?_)
  · simp
  · simp
  · simp
  · simp [stP, pathL]
  refine SatD.seq ?_
  refine SatD.regSeq hΓ follows [1, 2, 7, 8, 9, 13] ?_
  simp [d25r4]
  refine SatD.cond rfl (fun hcc => ?_) (fun hcc => ?_)
  · have hcc : y < is.length := by simpa using hcc
    refine SatD.skip ?_
    simp
    refine SatD.seq ?_
    refine SatD.block ?_
    refine SatD.seq ?_
    obtain ⟨k, k1, k2, k3, hS, k4, k5⟩ := hst y hcc
    have rr := rowAt_ints hcc
    rw [k1] at rr
    obtain ⟨⟨af, at_, am, ac, ao⟩, har⟩ : ∃ a, arcs.getD k default = a := ⟨_, rfl⟩
    have rw1 := rowAt_arc k2 har
    have hac := ha (arcs.getD k default) (getD_mem k2)
    rw [har] at hac hS k3
    simp only at hac hS k3
    obtain ⟨⟨q1, q2⟩, hq⟩ : ∃ q, stP arcs is y = q := ⟨_, rfl⟩
    rw [hq] at k3 k4 k5 hS ⊢
    simp only at k3 k4 k5 hS ⊢
    refine SatD.regToS hΓ follows [(1, .v (.sl (intsT is))), (2, .v (.box [ti st, .sl (arcsT arcs), .sl (intsT fin)])), (8, .v (ti q2)), (9, .v (ti y)), (43, .v (.bool false))] ?_ ?_
    · have k0 : ¬ ((k : Int) < 0) := by omega
      have k6 : ¬ arcs.length ≤ k := by omega
      simp [d25r5, hcc, rr, k0, k2, k6, rw1, Arc.enc, k3]
    refine SatD.cond rfl (fun g5 => by cases g5) (fun g5 => ?_)
    refine SatD.skip ?_
    simp
    refine SatD.regSeq hΓ follows [1, 2, 7, 8, 9] ?_
    simp [d25r7, hcc, rr, k2, rw1, Arc.enc]
    refine SatD.reg hΓ follows [1, 2, 7, 8, 9] ?_
    simp [d25r8, hcc, rr, k2, rw1, Arc.enc]
    refine ⟨⟨_, _, ⟨rfl, rfl⟩, ⟨k4, k5⟩, by omega⟩, ?_⟩
    refine SatD.reg hΓ follows [1, 2, 7, 8, 9] ?_
    simp [d25r9]
    rw [wrap_id (x := (y : Int) + 1) (by omega)]
    refine ⟨y + 1, Le.keep (o := []) ?_ ?_ ?_ ?_, by omega, by omega⟩
    · simp
    · simp
    · simp
    · simp [hS]
  · have hy2 : y = is.length := by simp at hcc; omega
    subst hy2
    simp only [hend]
    refine SatD.exit ?_
    simp
    refine SatD.seq ?_
    refine SatD.regSeq hΓ follows [2, 7, 8, 69] ?_
    simp [d25r10, ht, rf]
    refine SatD.cond rfl (fun g => absurd (of_decide_eq_true g) (by omega)) (fun g => ?_)
    refine SatD.skip ?_
    simp
    refine SatD.regSeq hΓ follows [4, 5, 6] ?_
    simp [d25r12, ht, rf]
    refine ⟨⟨_, _, ⟨rfl, rfl⟩, hcok.2, by omega⟩, ?_⟩
    refine SatD.ret ?_
    simp [d25res]
end Go.Proofs
/- emendatelaw39.ItemsDerivationIsParse answers true, for derivations of up to 1048576 nodes. Conditions: none. -/
namespace Go.Proofs
open Go.DM Go.DM.Srt
set_option linter.unusedSimpArgs false
set_option linter.unusedVariables false

noncomputable abbrev s20b : DM.Spec := specP (fun ts => ∃ a l, ts = [.agg [ti a, .sl (trsT l)]] ∧ (Tr.mk a l).sz ≤ 1048576) (fun | [.agg d] => ti (decTr d).sz | _ => .bool false) true
theorem ok7a : EnvOk Try.prog (envOf [(9, specP (fun ts => ts = []) (fun _ => .bool true) true), (10, specP preFair fnFair true), (20, s20b)]) := by
  refine EnvOk.cons (EnvOk.cons (EnvOk.cons EnvOk.nil ?_) ?_) ?_
  · rintro ts ⟨a, l, rfl, h⟩
    exact ⟨by simpa [Tr.enc] using t20 1048576 (.mk a l) h h, fun _ => rfl⟩
  · rintro ts ⟨n, l, rfl, h1, h2, h3⟩
    exact ⟨by simpa [fnFair] using t10 n l h1 h2 h3, fun _ => rfl⟩
  · rintro ts rfl
    exact ⟨t9, fun _ => rfl⟩
theorem hyper_costs {n : Normal} {l : Lattice} (hp : FairP n l) : okCosts (hyper n l) := fun e he => by have := hyper_ok hp e he; exact ⟨this.2.2.1, this.2.2.2.1⟩
abbrev s26 : DM.Spec := specP (fun ts => ∃ a b, ts = [.sl (intsT a), .sl (intsT b)] ∧ a.length ≤ 9223372036854775807) (fun | [.sl a, .sl b] => .bool (decide (decInts a = decInts b)) | _ => .bool false) true
abbrev s25 (st : Int) (arcs : List Arc) (fin is : List Int) (t : Nat) (p : Int) : DM.Spec := specP (fun ts => ts = [.agg [ti st, .sl (arcsT arcs), .sl (intsT fin)], .sl (intsT is)]) (fun _ => .tup [ti t, ti p, .bool true]) true
theorem ok7b {n : Normal} {l : Lattice} (hp : FairP n l) {es : List Edge} (hes : hyper n l = es) : EnvOk Try.prog (envOf [(11, specP pre11 fn11 false), (12, specP pre12 fn11 false), (13, specP pre13 fn13 true), (21, s21 (goalI n.nonterms l.states + 1) es 1048576), (22, s22 (goalI n.nonterms l.states + 1) es 1048576),
    (23, s23 n.terms n.nonterms n.start (goalI n.nonterms l.states + 1) n.rules es 1048576), (24, s24 n.terms n.nonterms n.start n.rules 1048576), (26, s26), (27, s27 n.terms n.nonterms n.start n.rules 1048576), (28, s28 n.terms n.nonterms n.start n.rules 1048576)]) := by
  have hcs := hyper_costs hp
  rw [hes] at hcs
  have hr : ∀ r ∈ n.rules, 0 ≤ r.price ∧ r.price ≤ 1000 := fun r h => by have := (hp.rules r h).1; unfold ruleBad at this; omega
  refine EnvOk.cons (EnvOk.cons (EnvOk.cons (EnvOk.cons (EnvOk.cons (EnvOk.cons (EnvOk.cons (EnvOk.cons (EnvOk.cons (EnvOk.cons EnvOk.nil ?_) ?_) ?_) ?_) ?_) ?_) ?_) ?_) ?_) ?_
  · rintro ts ⟨a, d, rfl, h, k⟩
    exact ⟨by simpa [s28, Tr.enc] using t28 n.terms n.nonterms n.start n.rules hr 1048576 (.mk a d) h h k, fun _ => rfl⟩
  · rintro ts ⟨a, d, rfl, h, k⟩
    exact ⟨by simpa [s27, Tr.enc] using t27 n.terms n.nonterms n.start n.rules 1048576 (.mk a d) h h k, fun h => by cases h⟩
  · rintro ts ⟨a, b, rfl, h⟩
    exact ⟨by simpa using t26 a b h, fun _ => rfl⟩
  · rintro ts ⟨h, a, d, rfl, k⟩
    exact ⟨by simpa [s24, Tr.enc] using t24 n.terms n.nonterms n.start n.rules 1048576 (.mk a d) h k k, fun _ => rfl⟩
  · rintro ts ⟨a, d, rfl, h, k, k2⟩
    exact ⟨by simpa [s23, Tr.enc] using t23 n.terms n.nonterms n.start (goalI n.nonterms l.states + 1) n.rules es 1048576 (.mk a d) h h k k2, fun h => by cases h⟩
  · rintro ts ⟨a, d, rfl, h, k⟩
    exact ⟨by simpa [s22, Tr.enc] using t22 (goalI n.nonterms l.states + 1) es hcs 1048576 (.mk a d) h h k, fun _ => rfl⟩
  · rintro ts ⟨h, a, d, rfl, k⟩
    exact ⟨by simpa [s21, Tr.enc] using t21 (goalI n.nonterms l.states + 1) es 1048576 (.mk a d) h k k, fun _ => rfl⟩
  · rintro ts ⟨a, b, rfl, h⟩
    exact ⟨by simpa [fn13] using t13 a b h, fun _ => rfl⟩
  · rintro ts ⟨n, l, rfl, h⟩
    exact ⟨by simpa [fn11] using t12 n l h, fun h => by cases h⟩
  · rintro ts ⟨n, l, rfl, h⟩
    exact ⟨by simpa [fn11] using t11 n l h, fun h => by cases h⟩
set_option maxRecDepth 20000 in
set_option maxHeartbeats 8000000 in
theorem t7 (n : Normal) (l : Lattice) (d : Tr) (hl : n.rules.length ≤ 9223372036854775807) (hf : l.final.length ≤ 9223372036854775807) (ha : l.arcs.length ≤ 9223372036854775807) (hd : d.sz ≤ 1048576) : CallsOk Try.prog 7 [n.enc, l.enc, .agg d.enc] (.bool true) := by
  have hΓ := ok7a
  obtain ⟨m, ks⟩ := d
  refine c7.ok (by simp) (initSt_sat ?_)
  simp [Normal.enc, Lattice.enc, Tr.enc]
  refine SatD.regSeq hΓ follows [3, 4, 5] ?_
  simp [d7r0]
  refine SatD.le (Le.keep (o := []) (l := [(3, .v (.box [ti n.terms, ti n.nonterms, ti n.start, .sl (rulesT n.rules)])), (4, .v (.box [ti l.states, .sl (arcsT l.arcs), .sl (intsT l.final)])), (5, .v (.box [ti m, .sl (trsT ks)]))]) (nxt' := 1200) ?_ ?_ ?_ ?_) ?_
  · simp
  · simp
  · simp
  · simp
  refine SatD.seq ?_
  refine SatD.regSeq hΓ follows [3, 4, 5, 18] ?_
  simp [d7r1]
  refine SatD.cond rfl (fun hcc => by cases hcc) (fun hcc => ?_)
  refine SatD.skip ?_
  simp
  refine SatD.seq ?_
  obtain ⟨c1, hc1⟩ : ∃ c1 : Bool, (!fair n l || decide (60 < ((Tr.mk m ks).sz : Int))) = c1 := ⟨_, rfl⟩
  refine SatD.regToS hΓ follows [(3, .v (.box [ti n.terms, ti n.nonterms, ti n.start, .sl (rulesT n.rules)])), (4, .v (.box [ti l.states, .sl (arcsT l.arcs), .sl (intsT l.final)])), (5, .v (.box [ti m, .sl (trsT ks)])), (27, .v (.bool c1))] ?_ ?_
  · by_cases q1 : fair n l = true
    · simp only [q1, Bool.not_true, Bool.false_or] at hc1
      simp [d7r3, fnFair, q1, hc1]
      exact ⟨⟨n, l, rfl, hl, hf, ha⟩, _, _, ⟨rfl, rfl⟩, hd⟩
    · have : c1 = true := by rw [← hc1]; simp [q1]
      simp [d7r3, fnFair, q1, this]
      exact ⟨n, l, rfl, hl, hf, ha⟩
  refine SatD.cond rfl (fun g3 => ?_) (fun g3 => ?_)
  · skip
    refine SatD.regSeq hΓ follows [6] ?_
    simp [d7r4]
    refine SatD.ret ?_
    simp [d7res]
  · rw [g3] at hc1
    simp only [Bool.or_eq_false_iff, Bool.not_eq_false'] at hc1
    have hp : FairP n l := fairP hc1.1
    have hfit := hp.fit
    have hlen := hyper_len hfit
    have hok := hyper_ok hp
    have hg := goal_small hp.nt hp.st
    have hlaw := goal_law hp (d := .mk m ks)
    obtain ⟨es, hes⟩ : ∃ es, hyper n l = es := ⟨_, rfl⟩
    have hes' : hyper ⟨n.terms, n.nonterms, n.start, n.rules⟩ ⟨l.states, l.arcs, l.final⟩ = es := hes
    have hΓ := ok7b hp hes
    rw [hes] at hlen hok hlaw
    generalize hgl : goalI n.nonterms l.states = gl at *
    refine SatD.skip ?_
    simp
    refine SatD.regSeq hΓ follows [3, 4, 5, 7, 8] ?_
    simp [d7r5, fn11, hes', hgl]
    refine ⟨⟨n, l, rfl, hfit⟩, ⟨n, l, rfl, hp⟩, ?_⟩
    refine SatD.le (Le.keep (o := []) (l := [(3, .v (.box [ti n.terms, ti n.nonterms, ti n.start, .sl (rulesT n.rules)])), (4, .v (.box [ti l.states, .sl (arcsT l.arcs), .sl (intsT l.final)])), (5, .v (.box [ti m, .sl (trsT ks)])), (7, .v (.box [ti (gl + 1), .sl (edgesT es)])), (8, .v (.box [ti (gl + 1), .sl (edgesT es)]))]) (nxt' := 2000) ?_ ?_ ?_ ?_) ?_
    · simp
    · simp
    · simp
    · simp
    refine SatD.seq ?_
    refine SatD.regToS hΓ follows [(3, .v (.box [ti n.terms, ti n.nonterms, ti n.start, .sl (rulesT n.rules)])), (4, .v (.box [ti l.states, .sl (arcsT l.arcs), .sl (intsT l.final)])), (5, .v (.box [ti m, .sl (trsT ks)])), (7, .v (.box [ti (gl + 1), .sl (edgesT es)])), (46, .v (.bool false))] ?_ ?_
    · simp [d7r6, fn13]
      exact ⟨es, es, rfl, by omega, fun e he => by have := (hok e he).2.2.2.2.1; omega⟩
    refine SatD.cond rfl (fun g6 => by cases g6) (fun g6 => ?_)
    refine SatD.skip ?_
    simp
    refine SatD.seq ?_
    refine SatD.regSeq hΓ follows [3, 4, 5, 7, 53] ?_
    simp [d7r8, s21]
    refine ⟨⟨_, _, _, ⟨rfl, rfl, rfl⟩, hd⟩, ?_⟩
    rw [wrap_id (x := gl) (by omega)]
    refine SatD.cond rfl (fun g8 => ?_) (fun g8 => ?_)
    · skip
      refine SatD.regSeq hΓ follows [6] ?_
      simp [d7r9]
      refine SatD.ret ?_
      simp [d7res]
    · have hv : validD es gl (.mk m ks) = true := by simpa using g8
      obtain ⟨m', k, t, w, he, m1, m2, ht, hge, hfin, hco, hpath, hpl, hcost⟩ := hlaw hv
      simp only [Tr.mk.injEq] at he
      obtain ⟨rfl, hks⟩ := he
      obtain ⟨m, rfl⟩ := Int.eq_ofNat_of_zero_le m1
      have m2 : m < es.length := by omega
      rw [Int.toNat_natCast] at hge
      have rwe := rowAt_edge m2 hge
      have hkl : 0 < ks.length := by rw [hks]; simp
      obtain ⟨⟨ka, kl⟩, hk⟩ : ∃ q, q = k := ⟨_, rfl⟩
      have rrk : DM.rowAt (trsT ks) 0 = [ti ka, .sl (trsT kl)] := by rw [hks, ← hk]; simp [DM.rowAt, trsT, Tr.enc]
      have hdk : (Tr.mk ka kl).sz ≤ 1048576 := by rw [hk]; simp only [Tr.sz, hks, trsSz] at hd; omega
      have hokd : okD es (.mk ka kl) := by rw [hk]; have := (okD_mk ⟨_, hv⟩).2.2 0 hkl; simpa [hks] using this
      rw [← hk] at hco hpath hpl hcost
      obtain ⟨c1, _, c3, c4, c5⟩ := hco
      obtain ⟨⟨⟨pa, pl⟩, ar⟩, hpd⟩ : ∃ p, parseD es n.rules (.mk ka kl) = p := ⟨_, rfl⟩
      rw [hpd] at c1 c3 c4 c5 hpath hpl hcost
      simp only at c1 c3 c4 c5 hpath hpl hcost
      have hokp : okP n.rules (parseD es n.rules (.mk ka kl)).1 := by rw [hpd]; exact ⟨_, c1⟩
      have hokp2 : okP n.rules (.mk pa pl) := ⟨_, c1⟩
      have harc : ∀ a ∈ l.arcs, (0 ≤ a.cost ∧ 0 ≤ a.t) ∧ a.cost ≤ 1099511627776 := fun a ha => by have := hp.arc a ha; simp only [Inf] at this; omega
      have hfr := hp.fin (l.final.getD t default) (getD_mem ht)
      have hI : Inf = 1099511627776 := rfl
      have hstep := fun y hy => stP_step (fun a h => (harc a h).1) hpl (y := y) hy
      have hpok := pathL_ok (fun a h => (harc a h).1) _ _ _ _ hpl (by omega) (by omega)
      have hB := hΓ
      obtain ⟨cost, hcv⟩ : ∃ c, (valD es (.mk m ks)).1 = c := ⟨_, rfl⟩
      rw [hcv] at hcost
      obtain ⟨pc, hpc⟩ : ∃ c, min Inf w = c := ⟨_, rfl⟩
      rw [hpc] at hpl hcost hpok
      simp only at hpok
      obtain ⟨pr, hpr⟩ : ∃ c, addS pc (l.final.getD t default) = c := ⟨_, rfl⟩
      rw [hpr] at hcost
      have hprr : 0 ≤ pr ∧ pr ≤ 1099511627776 := by rw [← hpr]; exact addS_ok hpok.2 hfr.1
      refine SatD.skip ?_
      simp
      refine SatD.regSeq hΓ follows [3, 4, 5, 7, 9] ?_
      simp [d7r10, s22, valT, hcv]
      refine ⟨⟨_, _, ⟨rfl, rfl⟩, hd, ⟨_, hv⟩⟩, ?_⟩
      refine SatD.regSeq hΓ follows [3, 4, 5, 7, 9, 10, 11] ?_
      simp [d7r11, s23, hkl, rrk, hpd, Tr.enc]
      refine ⟨⟨_, _, ⟨rfl, rfl⟩, hdk, hokd, hokp⟩, ?_⟩
      refine SatD.le (Le.keep (o := []) (l := [(3, .v (.box [ti n.terms, ti n.nonterms, ti n.start, .sl (rulesT n.rules)])), (4, .v (.box [ti l.states, .sl (arcsT l.arcs), .sl (intsT l.final)])), (5, .v (.box [ti m, .sl (trsT ks)])), (7, .v (.box [ti (gl + 1), .sl (edgesT es)])), (9, .v (ti cost)), (10, .v (.box [ti pa, .sl (trsT pl)])), (11, .v (.sl (intsT ar)))]) (nxt' := 3000) ?_ ?_ ?_ ?_) ?_
      · simp
      · simp
      · simp
      · simp
      refine SatD.seq ?_
      refine SatD.regToS hΓ follows [(3, .v (.box [ti n.terms, ti n.nonterms, ti n.start, .sl (rulesT n.rules)])), (4, .v (.box [ti l.states, .sl (arcsT l.arcs), .sl (intsT l.final)])), (5, .v (.box [ti m, .sl (trsT ks)])), (7, .v (.box [ti (gl + 1), .sl (edgesT es)])), (9, .v (ti cost)), (10, .v (.box [ti pa, .sl (trsT pl)])), (11, .v (.sl (intsT ar))), (73, .v (.bool false))] ?_ ?_
      · simp [d7r12, s24, c1]
        exact ⟨_, _, _, ⟨rfl, rfl, rfl⟩, by omega⟩
      refine SatD.cond rfl (fun g12 => by cases g12) (fun g12 => ?_)
      refine SatD.skip ?_
      simp
      have hΓ : EnvOk Try.prog (envOf [(25, s25 l.states l.arcs l.final ar t pr)]) := by
        refine EnvOk.cons EnvOk.nil ?_
        rintro ts rfl
        exact ⟨by rw [← hpr]; exact t25 l.states l.arcs l.final ar harc (by omega) hpl ht (by rw [hI] at hfin; omega), fun _ => rfl⟩
      refine SatD.regSeq hΓ follows [3, 4, 5, 7, 9, 10, 11, 12, 13, 14] ?_
      simp [d7r14]
      refine SatD.seq ?_
      refine SatD.regToS hΓ follows [(3, .v (.box [ti n.terms, ti n.nonterms, ti n.start, .sl (rulesT n.rules)])), (4, .v (.box [ti l.states, .sl (arcsT l.arcs), .sl (intsT l.final)])), (9, .v (ti cost)), (10, .v (.box [ti pa, .sl (trsT pl)])), (11, .v (.sl (intsT ar))), (13, .v (ti pr)), (94, .v (.bool false))] ?_ ?_
      · simp [d7r15, m2, rwe, Edge.enc]
      refine SatD.cond rfl (fun g15 => by cases g15) (fun g15 => ?_)
      refine SatD.skip ?_
      simp
      refine SatD.regSeq hΓ follows [3, 4, 9, 10, 11, 13, 15] ?_
      simp [d7r17]
      refine SatD.le (Le.keep (o := []) (l := [(3, .v (.box [ti n.terms, ti n.nonterms, ti n.start, .sl (rulesT n.rules)])), (4, .v (.box [ti l.states, .sl (arcsT l.arcs), .sl (intsT l.final)])), (9, .v (ti cost)), (10, .v (.box [ti pa, .sl (trsT pl)])), (11, .v (.sl (intsT ar))), (13, .v (ti pr)), (15, .nil0)]) (nxt' := 9000) ?_ ?_ ?_ ?_) ?_
      · simp
      · simp
      · simp
      · simp
      refine SatD.le (Le.nilSlot (k := 15) 3 (sz := 1) (by omega) (by simp)) ?_
      rw [obs_setO]
      refine SatD.seq ?_
      refine SatD.regSeq hΓ follows [3, 4, 9, 10, 11, 13, 15, 16] ?_
      simp [d7r18]
      refine SatD.block ?_
      refine SatD.loop (fun y : Nat => ⟨DM.look [(3, .v (.box [ti n.terms, ti n.nonterms, ti n.start, .sl (rulesT n.rules)])), (4, .v (.box [ti l.states, .sl (arcsT l.arcs), .sl (intsT l.final)])), (9, .v (ti cost)), (10, .v (.box [ti pa, .sl (trsT pl)])), (11, .v (.sl (intsT ar))), (13, .v (ti pr)), (15, .aref 9000 0), (16, .v (ti y))], obs [(9000, .arr 0 3 1 (intsT (termsOf l.arcs (ar.take y))))], 9100, 1000, []⟩)
        (fun y => y ≤ ar.length) (fun y => ar.length - y) 0 (Le.keep ?_ ?_ ?_ ?_) (by simp) (fun y hy => ?_)
      · simp
      · simp
      · simp [termsOf, intsT]
      · simp
      refine SatD.seq ?_
      refine SatD.regSeq hΓ follows [3, 4, 9, 10, 11, 13, 15, 16, 98] ?_
      simp [d7r19]
      refine SatD.cond rfl (fun hcc => ?_) (fun hcc => ?_)
      · have hcc : y < ar.length := by simpa using hcc
        refine SatD.skip ?_
        simp
        refine SatD.seq ?_
        refine SatD.block ?_
        obtain ⟨k, k1, k2, _⟩ := hstep y hcc
        have rr := rowAt_ints hcc
        rw [k1] at rr
        obtain ⟨⟨af, at_, am, ac, ao⟩, har⟩ : ∃ a, l.arcs.getD k default = a := ⟨_, rfl⟩
        have rw1 := rowAt_arc k2 har
        have hS : intsT (termsOf l.arcs (ar.take (y + 1))) = intsT (termsOf l.arcs (ar.take y)) ++ [[ti am]] := by
          rw [take_succ_getD hcc, k1, termsOf, List.map_append, intsT_append]; simp only [List.map_cons, List.map_nil, Int.toNat_natCast, har]; rfl
        have hlt : (termsOf l.arcs (ar.take y)).length ≤ ar.length := by simp [termsOf]; omega
        refine SatD.reg hΓ follows [3, 4, 9, 10, 11, 13, 15, 16] ?_
        simp [d7r20, hcc, rr, k2, rw1, Arc.enc, chunk, roomOk]
        repeat (refine ⟨by omega, ?_⟩)
        refine SatD.reg hΓ follows [3, 4, 9, 10, 11, 13, 15, 16] ?_
        simp [d7r21]
        rw [wrap_id (x := (y : Int) + 1) (by omega)]
        refine ⟨y + 1, Le.keep ?_ ?_ ?_ ?_, by omega, by omega⟩
        · simp
        · simp
        · simp [hS]
        · simp
      · have hy2 : y = ar.length := by simp at hcc; omega
        subst hy2
        rw [List.take_length, c3]
        refine SatD.exit ?_
        simp
        have hΓ := hB
        obtain ⟨yl, hyl⟩ : ∃ y, yieldP n.rules (.mk pa pl) = y := ⟨_, rfl⟩
        have hyll := yield_len n.rules (.mk pa pl)
        obtain ⟨pp, hpp⟩ : ∃ y, priceP n.rules (.mk pa pl) = y := ⟨_, rfl⟩
        rw [hyl] at hyll ⊢
        rw [hpp] at hcost c4
        refine SatD.regSeq hΓ follows [6] ?_
        simp [d7r22, s26, s27, s28, hyl, hpp, wrap_id (x := pp + pr) (by omega)]
        refine ⟨⟨_, _, ⟨rfl, rfl⟩, by omega, hokp2⟩, by omega, ⟨_, _, ⟨rfl, rfl⟩, by omega, hokp2⟩, ?_⟩
        rw [hI] at hcost
        refine SatD.ret ?_
        simp [d7res, hcost]
end Go.Proofs
/- The D-machine, part R: from the arguments as the claim reads them to trees, and back. Conditions: none. -/
namespace Go.DM
open Go.RowKit Go.ChangeShapes Go.WideShapes
set_option linter.unusedSimpArgs false
set_option linter.unusedVariables false
set_option linter.unusedSectionVars false
variable [Laid]

/-- The fields lie one behind another, their types are in the list. -/
def fieldsOk (P : Program) (L : List TypeId) : Nat → List Field → Nat → Bool
  | o, [], n => o == n
  | o, f :: fs, n => f.offset == o && L.contains f.type && fieldsOk P L (o + P.cellsOf f.type) fs n
/-- Types of plain data: numbers, truth values, texts, slices, structs and arrays of such; closed under parts. -/
def plainTy (P : Program) (L : List TypeId) (t : TypeId) : Bool :=
  match P.underlying t with
  | some .bool | some (.int _) | some .string => true
  | some (.slice e) => L.contains e && decide (0 < P.cellsOf e)
  | some (.struct fs) => fieldsOk P L 0 fs.toList (P.cellsOf t)
  | some (.array n e) => L.contains e && P.cellsOf t == n * P.cellsOf e
  | _ => false
def plainTys (P : Program) (L : List TypeId) : Bool := L.all (plainTy P L)

/-- Cells one part behind another. -/
def allTys (q : TypeId → List T → Prop) : List TypeId → List T → Prop
  | [], ts => ts = []
  | t :: tys, ts => ∃ a b, ts = a ++ b ∧ q t a ∧ allTys q tys b
/-- These cells are a value of that type. -/
def HasTy (P : Program) : Nat → TypeId → List T → Prop
  | 0, _, _ => False
  | n + 1, t, ts =>
    match P.underlying t with
    | some .bool => ∃ b, ts = [.bool b]
    | some (.int k) => ∃ x, ts = [.int k x] ∧ (Lit.int k x).wf = true
    | some .string => ∃ s, ts = [.str s] ∧ s.size ≤ maxLen
    | some (.slice e) => ∃ rows, ts = [.sl rows] ∧ rows.length ≤ maxLen ∧ ∀ r ∈ rows, HasTy P n e r
    | some (.struct fs) => allTys (HasTy P n) (fs.toList.map (·.type)) ts
    | some (.array k e) => allTys (HasTy P n) (List.replicate k e) ts
    | _ => False
/-- This tree is an argument of that type. -/
def HasArg (P : Program) (n : Nat) (t : TypeId) (x : T) : Prop :=
  match P.underlying t with
  | some (.struct _) | some (.array _ _) => ∃ ts, x = .agg ts ∧ HasTy P n t ts
  | _ => HasTy P n t [x]
def HasArgs (P : Program) : List TypeId → List T → Prop
  | [], xs => xs = []
  | t :: ts, xs => ∃ x xs', xs = x :: xs' ∧ (∃ n, HasArg P n t x) ∧ HasArgs P ts xs'

section
variable {P : Program} {L : List TypeId}

theorem plain_mem (h : plainTys P L = true) {t : TypeId} (ht : t ∈ L) : plainTy P L t = true := List.all_eq_true.1 h t ht

theorem fieldsOk_spec : ∀ (fs : List Field) (o n : Nat), fieldsOk P L o fs n = true → (∀ f ∈ fs, f.type ∈ L) ∧ n = o + (fs.map fun f => P.cellsOf f.type).sum ∧ ∀ (j : Nat) f, fs[j]? = some f → f.offset = o + ((fs.take j).map fun f => P.cellsOf f.type).sum
  | [], o, n, h => by
    simp only [fieldsOk, beq_iff_eq] at h
    exact ⟨fun _ h => (by cases h), by simp [h], fun j f h => by simp at h⟩
  | f :: fs, o, n, h => by
    simp only [fieldsOk, Bool.and_eq_true, beq_iff_eq, List.contains_iff_mem] at h
    obtain ⟨⟨h1, h2⟩, h3⟩ := h
    obtain ⟨k1, k2, k3⟩ := fieldsOk_spec fs _ n h3
    refine ⟨fun g hg => ?_, ?_, fun j g hg => ?_⟩
    · rcases List.mem_cons.1 hg with rfl | hg
      · exact h2
      · exact k1 g hg
    · rw [k2]; simp; omega
    · cases j with
      | zero => simp at hg; subst hg; simp [h1]
      | succ j =>
        have := k3 j g (by simpa using hg)
        rw [this]; simp; omega

theorem plain_kids (h : plainTys P L = true) : Kids P (· ∈ L) := by
  refine ⟨fun {t e} ht hu => ?_, fun {t e} ht hu => ?_, fun {t e n} ht hu => ?_, fun {t fs} ht hu => ?_, fun {t k e} ht hu => ?_⟩
  all_goals
    have := plain_mem h ht
    simp only [plainTy, hu] at this
  · cases this
  · simp only [Bool.and_eq_true, List.contains_iff_mem] at this; exact this.1
  · simp only [Bool.and_eq_true, List.contains_iff_mem, beq_iff_eq] at this; exact this
  · obtain ⟨k1, k2, k3⟩ := fieldsOk_spec _ _ _ this
    exact ⟨k1, by simpa using k2, fun j f hf => by simpa using k3 j f hf⟩
  · cases this

theorem choose_rows {α : Type} {q : Nat → α → Prop} : ∀ (n : Nat), (∀ i, i < n → ∃ x, q i x) → ∃ l : List α, l.length = n ∧ ∀ i x, l[i]? = some x → q i x
  | 0, _ => ⟨[], rfl, fun i x h => by simp at h⟩
  | n + 1, h => by
    obtain ⟨l, hl, hq⟩ := choose_rows n fun i hi => h i (by omega)
    obtain ⟨x, hx⟩ := h n (by omega)
    refine ⟨l ++ [x], by simp [hl], fun i y hy => ?_⟩
    by_cases hi : i < l.length
    · rw [List.getElem?_append_left hi] at hy; exact hq i y hy
    · rw [List.getElem?_append_right (by omega)] at hy
      have : i = n := by
        have := (List.getElem?_eq_some_iff.1 hy).1
        simp at this; omega
      subst this
      simp [hl] at hy
      subst hy; exact hx

theorem cells_get {w : World} {a : Addr} {n : Nat} {cs : List Value} (h : w.cells? 0 a n = some cs) : cs.length = n ∧ ∀ j v, cs[j]? = some v → w.cell? (a.add j) = some v := by
  simp only [World.cells?, Nat.zero_le, if_true] at h
  refine ⟨by simpa using mapM_some_length h, fun j v hj => ?_⟩
  have hlt : j < n := by
    have := (List.getElem?_eq_some_iff.1 hj).1
    have h2 := mapM_some_length h
    simp at h2; omega
  have := mapM_some_get h j j (by simp [hlt])
  rw [hj] at this
  simpa using this.symm
where
  mapM_some_length {α β : Type} {f : α → Option β} {l : List α} {r : List β} (h : l.mapM f = some r) : r.length = l.length := by
    induction l generalizing r with
    | nil => simp at h; simp [h]
    | cons x l ih =>
      simp only [List.mapM_cons, Option.pure_def, Option.bind_eq_bind, Option.bind_eq_some_iff, Option.some.injEq] at h
      obtain ⟨y, _, ys, hys, rfl⟩ := h
      simp [ih hys]
  mapM_some_get {α β : Type} {f : α → Option β} {l : List α} {r : List β} (h : l.mapM f = some r) (i : Nat) (x : α) (hx : l[i]? = some x) : r[i]? = f x := by
    induction l generalizing r i with
    | nil => simp at hx
    | cons y l ih =>
      simp only [List.mapM_cons, Option.pure_def, Option.bind_eq_bind, Option.bind_eq_some_iff, Option.some.injEq] at h
      obtain ⟨z, hz, ys, hys, rfl⟩ := h
      cases i with
      | zero => simp at hx; subst hx; simp [hz]
      | succ i => simpa using ih hys i (by simpa using hx)

theorem cell_in {w : World} {a : Addr} {v : Value} (h : w.cell? a = some v) : a.block < w.heap.size ∧ a.spot = none := by
  unfold World.cell? at h
  split at h
  · rename_i c e f hb
    split at h
    · cases h
    · rename_i hs
      exact ⟨(Array.getElem?_eq_some_iff.1 hb).1, by simpa using hs⟩
  · cases h

theorem add_zero (a : Addr) : a.add 0 = a := by simp [Addr.add]
theorem add_none (b o k : Nat) : (⟨b, o, none⟩ : Addr).add k = ⟨b, o + k, none⟩ := by
  unfold Addr.add
  by_cases h : k = 0 <;> simp [h]

theorem args_again {H : Type} {enc : TypeId × Value → H} {w w' : World} {sp' : Nat → Bool} {held : Bool} (hL : plainTys P L = true) (hheld : held = true) : ∀ {tys : List TypeId} {vs : List Value} {ds : List (DataW H)} {ps : List MemPlace}, (∀ t ∈ tys, t ∈ L) →
    DataW.TrodAll enc P w 0 (fun _ => true) held tys vs ds ps → (∀ p ∈ ps, w.sameAt w' p) → (∀ p ∈ ps, sp' p.block = true) → DataW.TrodAll enc P w' 0 sp' held tys vs ds ps
  | [], vs, ds, ps, _, h, _, _ => by
    obtain ⟨rfl, rfl, rfl⟩ := trodAll_nil h
    exact trodAll_mk0
  | t :: tys, vs, ds, ps, ht, h, h1, h2 => by
    obtain ⟨v, vs1, d, ds1, a, b, rfl, rfl, rfl, ⟨n, k1⟩, k2⟩ := trodAll_cons h
    refine trodAll_cons_mk ⟨n, DataW.trod_stays (plain_kids hL) (fun {t e} ht hu => ?_) (fun h => by rw [hheld] at h; cases h) (ht t (List.mem_cons_self ..)) k1 (fun p hp => h1 p (List.mem_append_left _ hp)) (fun p hp => h2 p (List.mem_append_left _ hp))⟩
      (args_again hL hheld (fun u hu => ht u (List.mem_cons_of_mem _ hu)) k2 (fun p hp => h1 p (List.mem_append_right _ hp)) (fun p hp => h2 p (List.mem_append_right _ hp)))
    have := plain_mem hL ht
    simp only [plainTy, hu, Bool.and_eq_true, decide_eq_true_eq] at this
    exact this.2

theorem trod_len {H : Type} {enc : TypeId × Value → H} {w : World} {b : Nat} {sp : Nat → Bool} {held : Bool} : ∀ {tys : List TypeId} {vs : List Value} {ds : List (DataW H)} {ps : List MemPlace}, DataW.TrodAll enc P w b sp held tys vs ds ps → ds.length = tys.length
  | [], vs, ds, ps, h => by
    obtain ⟨rfl, rfl, rfl⟩ := trodAll_nil h
    rfl
  | t :: tys, vs, ds, ps, h => by
    obtain ⟨v, vs1, d, ds1, a, b, rfl, rfl, rfl, h1, h2⟩ := trodAll_cons h
    simp [trod_len h2]

end

/-- Types of plain data, spelt out. -/
inductive Ty where
  | bool | int (k : IntKind) | str
  | slice (e : Ty)
  | seq (fs : List Ty)

mutual
def Ty.has : Ty → List T → Prop
  | .bool, ts => ∃ b, ts = [.bool b]
  | .int k, ts => ∃ x, ts = [.int k x] ∧ (Lit.int k x).wf = true
  | .str, ts => ∃ s, ts = [.str s] ∧ s.size ≤ maxLen
  | .slice e, ts => ∃ rows, ts = [.sl rows] ∧ rows.length ≤ maxLen ∧ ∀ r ∈ rows, e.has r
  | .seq fs, ts => Ty.hasAll fs ts
def Ty.hasAll : List Ty → List T → Prop
  | [], ts => ts = []
  | t :: tys, ts => ∃ a b, ts = a ++ b ∧ t.has a ∧ Ty.hasAll tys b
end
/-- An argument: a struct's cells stand in a bundle. -/
def Ty.arg : Ty → T → Prop
  | .seq fs, x => ∃ ts, x = .agg ts ∧ Ty.hasAll fs ts
  | ty, x => ty.has [x]
def Ty.args : List Ty → List T → Prop
  | [], xs => xs = []
  | t :: tys, xs => ∃ x xs', xs = x :: xs' ∧ t.arg x ∧ Ty.args tys xs'

def tyOf (P : Program) : Nat → TypeId → Option Ty
  | 0, _ => none
  | n + 1, t =>
    match P.underlying t with
    | some .bool => some .bool
    | some (.int k) => some (.int k)
    | some .string => some .str
    | some (.slice e) => (tyOf P n e).map .slice
    | some (.struct fs) => (tysOf (tyOf P n) (fs.toList.map (·.type))).map .seq
    | some (.array k e) => (tyOf P n e).map fun x => .seq (List.replicate k x)
    | _ => none
where
  tysOf (q : TypeId → Option Ty) : List TypeId → Option (List Ty)
  | [] => some []
  | t :: ts => match q t, tysOf q ts with
    | some x, some xs => some (x :: xs)
    | _, _ => none

section
variable {P : Program}
theorem has_of : ∀ (m n : Nat) (t : TypeId) (ty : Ty) (ts : List T), tyOf P m t = some ty → HasTy P n t ts → ty.has ts := by
  intro m
  induction m with
  | zero => intro n t ty ts h; simp [tyOf] at h
  | succ m ih =>
    intro n t ty ts h hs
    cases n with
    | zero => exact hs.elim
    | succ n =>
      unfold tyOf at h
      unfold HasTy at hs
      split at h
      · rename_i hu; rw [hu] at hs; cases h; simpa [Ty.has] using hs
      · rename_i hu; rw [hu] at hs; cases h; simpa [Ty.has] using hs
      · rename_i hu; rw [hu] at hs; cases h; simpa [Ty.has] using hs
      · rename_i e hu; rw [hu] at hs
        obtain ⟨x, hx, rfl⟩ := Option.map_eq_some_iff.1 h
        obtain ⟨rows, rfl, h1, h2⟩ := hs
        simp only [Ty.has]
        exact ⟨rows, rfl, h1, fun r hr => ih n e x r hx (h2 r hr)⟩
      · rename_i fs hu; rw [hu] at hs
        obtain ⟨x, hx, rfl⟩ := Option.map_eq_some_iff.1 h
        simp only [Ty.has]
        have key : ∀ (tys : List TypeId) (xs : List Ty) (ts : List T), tyOf.tysOf (tyOf P m) tys = some xs → allTys (HasTy P n) tys ts → Ty.hasAll xs ts := by
          intro tys
          induction tys with
          | nil => intro xs ts h hs; simp only [tyOf.tysOf, Option.some.injEq] at h; subst h; simpa [Ty.hasAll, allTys] using hs
          | cons u tys ih2 =>
            intro xs ts h hs
            simp only [tyOf.tysOf] at h
            split at h
            · rename_i y ys hy hys
              cases h
              simp only [allTys] at hs
              obtain ⟨a, b, rfl, h1, h2⟩ := hs
              simp only [Ty.hasAll]
              exact ⟨a, b, rfl, ih n u y a hy h1, ih2 ys b hys h2⟩
            · cases h
        exact key _ _ _ hx hs
      · rename_i k e hu; rw [hu] at hs
        obtain ⟨x, hx, rfl⟩ := Option.map_eq_some_iff.1 h
        simp only [Ty.has]
        have key : ∀ (k : Nat) (ts : List T), allTys (HasTy P n) (List.replicate k e) ts → Ty.hasAll (List.replicate k x) ts := by
          intro k
          induction k with
          | zero => intro ts hs; simpa [Ty.hasAll, allTys] using hs
          | succ k ih2 =>
            intro ts hs
            simp only [List.replicate_succ, allTys] at hs
            obtain ⟨a, b, rfl, h1, h2⟩ := hs
            simp only [List.replicate_succ, Ty.hasAll]
            exact ⟨a, b, rfl, ih n e x a hx h1, ih2 b h2⟩
        exact key k ts hs
      · cases h

theorem arg_of {m n : Nat} {t : TypeId} {ty : Ty} {x : T} (h : tyOf P m t = some ty) (hs : HasArg P n t x) : ty.arg x := by
  cases m with
  | zero => simp [tyOf] at h
  | succ m =>
    have h0 := h
    unfold tyOf at h
    unfold HasArg at hs
    split at h
    · rename_i hu; rw [hu] at hs; cases h; exact has_of _ _ _ _ _ h0 hs
    · rename_i hu; rw [hu] at hs; cases h; exact has_of _ _ _ _ _ h0 hs
    · rename_i hu; rw [hu] at hs; cases h; exact has_of _ _ _ _ _ h0 hs
    · rename_i e hu; rw [hu] at hs
      obtain ⟨y, hy, rfl⟩ := Option.map_eq_some_iff.1 h
      exact has_of _ _ _ _ _ h0 hs
    · rename_i fs hu; rw [hu] at hs
      obtain ⟨y, hy, rfl⟩ := Option.map_eq_some_iff.1 h
      obtain ⟨ts, rfl, h2⟩ := hs
      have := has_of _ _ _ _ _ h0 h2
      simp only [Ty.has] at this
      exact ⟨ts, rfl, this⟩
    · rename_i k e hu; rw [hu] at hs
      obtain ⟨y, hy, rfl⟩ := Option.map_eq_some_iff.1 h
      obtain ⟨ts, rfl, h2⟩ := hs
      have := has_of _ _ _ _ _ h0 h2
      simp only [Ty.has] at this
      exact ⟨ts, rfl, this⟩
    · cases h
end
end Go.DM
/- The shape of the arguments of the Items statements. Conditions: none. -/
namespace Go.Proofs
open Go.DM
set_option linter.unusedVariables false
set_option linter.unusedSimpArgs false

def intTy : Ty := .int .i64
def ruleTy : Ty := .seq [.int .i64, .int .i64, .int .i64, .int .i64, .int .i64, .int .i64]
def opTy : Ty := .seq [.int .i64, .int .i64]
def arcTy : Ty := .seq [.int .i64, .int .i64, .int .i64, .int .i64, .slice opTy]
def normalTy : Ty := .seq [.int .i64, .int .i64, .int .i64, .slice ruleTy]
def latticeTy : Ty := .seq [.int .i64, .slice arcTy, .slice intTy]
theorem maxLen_eq : maxLen = 9223372036854775807 := by decide
theorem rows_of {α : Type} {enc : α → List T} {rows : List (List T)} (h : ∀ r ∈ rows, ∃ x, r = enc x) : ∃ l : List α, rows = l.map enc := by
  induction rows with
  | nil => exact ⟨[], rfl⟩
  | cons r rows ih =>
    obtain ⟨x, rfl⟩ := h r (List.mem_cons_self ..)
    obtain ⟨l, rfl⟩ := ih fun r hr => h r (List.mem_cons_of_mem _ hr)
    exact ⟨x :: l, rfl⟩
theorem int_of {ts : List T} (h : Ty.has (.int .i64) ts) : ∃ x, ts = [ti x] := by
  simp only [Ty.has] at h
  obtain ⟨x, rfl, _⟩ := h
  exact ⟨x, rfl⟩
theorem slice_of {α : Type} {enc : α → List T} {e : Ty} {ts : List T} (he : ∀ r, Ty.has e r → ∃ x, r = enc x) (h : Ty.has (.slice e) ts) : ∃ l : List α, ts = [.sl (l.map enc)] ∧ l.length ≤ 9223372036854775807 := by
  simp only [Ty.has] at h
  obtain ⟨rows, rfl, hl, hr⟩ := h
  obtain ⟨l, rfl⟩ := rows_of fun r hr' => he r (hr r hr')
  rw [maxLen_eq, List.length_map] at hl
  exact ⟨l, rfl, hl⟩
theorem all_cons {t : Ty} {tys : List Ty} {ts : List T} (h : Ty.hasAll (t :: tys) ts) : ∃ a b, ts = a ++ b ∧ t.has a ∧ Ty.hasAll tys b := by simpa only [Ty.hasAll] using h
theorem all_nil {ts : List T} (h : Ty.hasAll [] ts) : ts = [] := by simpa only [Ty.hasAll] using h
theorem seq_of {fs : List Ty} {ts : List T} (h : Ty.has (.seq fs) ts) : Ty.hasAll fs ts := by simpa only [Ty.has] using h
theorem rule_of {ts : List T} (h : ruleTy.has ts) : ∃ r : Rule, ts = r.enc := by
  obtain ⟨_, _, rfl, h1, h⟩ := all_cons (seq_of h)
  obtain ⟨_, _, rfl, h2, h⟩ := all_cons h
  obtain ⟨_, _, rfl, h3, h⟩ := all_cons h
  obtain ⟨_, _, rfl, h4, h⟩ := all_cons h
  obtain ⟨_, _, rfl, h5, h⟩ := all_cons h
  obtain ⟨_, _, rfl, h6, h⟩ := all_cons h
  obtain rfl := all_nil h
  obtain ⟨a, rfl⟩ := int_of h1
  obtain ⟨b, rfl⟩ := int_of h2
  obtain ⟨c, rfl⟩ := int_of h3
  obtain ⟨d, rfl⟩ := int_of h4
  obtain ⟨e, rfl⟩ := int_of h5
  obtain ⟨f, rfl⟩ := int_of h6
  exact ⟨⟨a, b, c, d, e, f⟩, rfl⟩
theorem op_of {ts : List T} (h : opTy.has ts) : ∃ o : Int × Int, ts = [ti o.1, ti o.2] := by
  obtain ⟨_, _, rfl, h1, h⟩ := all_cons (seq_of h)
  obtain ⟨_, _, rfl, h2, h⟩ := all_cons h
  obtain rfl := all_nil h
  obtain ⟨a, rfl⟩ := int_of h1
  obtain ⟨b, rfl⟩ := int_of h2
  exact ⟨(a, b), rfl⟩
theorem arc_of {ts : List T} (h : arcTy.has ts) : ∃ r : Arc, ts = r.enc := by
  obtain ⟨_, _, rfl, h1, h⟩ := all_cons (seq_of h)
  obtain ⟨_, _, rfl, h2, h⟩ := all_cons h
  obtain ⟨_, _, rfl, h3, h⟩ := all_cons h
  obtain ⟨_, _, rfl, h4, h⟩ := all_cons h
  obtain ⟨_, _, rfl, h5, h⟩ := all_cons h
  obtain rfl := all_nil h
  obtain ⟨a, rfl⟩ := int_of h1
  obtain ⟨b, rfl⟩ := int_of h2
  obtain ⟨c, rfl⟩ := int_of h3
  obtain ⟨d, rfl⟩ := int_of h4
  obtain ⟨l, rfl, _⟩ := slice_of (fun r => op_of) h5
  exact ⟨⟨a, b, c, d, l⟩, rfl⟩
theorem normal_of {x : T} (h : normalTy.arg x) : ∃ n : Normal, x = n.enc ∧ n.rules.length ≤ 9223372036854775807 := by
  unfold normalTy Ty.arg at h
  obtain ⟨ts, rfl, h⟩ := h
  obtain ⟨_, _, rfl, h1, h⟩ := all_cons h
  obtain ⟨_, _, rfl, h2, h⟩ := all_cons h
  obtain ⟨_, _, rfl, h3, h⟩ := all_cons h
  obtain ⟨_, _, rfl, h4, h⟩ := all_cons h
  obtain rfl := all_nil h
  obtain ⟨a, rfl⟩ := int_of h1
  obtain ⟨b, rfl⟩ := int_of h2
  obtain ⟨c, rfl⟩ := int_of h3
  obtain ⟨l, rfl, hl⟩ := slice_of (fun r => rule_of) h4
  exact ⟨⟨a, b, c, l⟩, rfl, hl⟩
theorem lattice_of {x : T} (h : latticeTy.arg x) : ∃ l : Lattice, x = l.enc ∧ l.arcs.length ≤ 9223372036854775807 ∧ l.final.length ≤ 9223372036854775807 := by
  unfold latticeTy Ty.arg at h
  obtain ⟨ts, rfl, h⟩ := h
  obtain ⟨_, _, rfl, h1, h⟩ := all_cons h
  obtain ⟨_, _, rfl, h2, h⟩ := all_cons h
  obtain ⟨_, _, rfl, h3, h⟩ := all_cons h
  obtain rfl := all_nil h
  obtain ⟨a, rfl⟩ := int_of h1
  obtain ⟨l, rfl, hl⟩ := slice_of (fun r => arc_of) h2
  obtain ⟨f, rfl, hf⟩ := slice_of (fun r => int_of) h3
  exact ⟨⟨a, l, f⟩, rfl, hl, hf⟩
end Go.Proofs
/- The D-machine, part Rb: from the arguments as the claim reads them to trees, with a bound of their sizes. Conditions: none. -/
namespace Go.DM
open Go.RowKit Go.ChangeShapes Go.WideShapes
set_option linter.unusedSimpArgs false
set_option linter.unusedVariables false
set_option linter.unusedSectionVars false
variable [Laid]

mutual
/-- How many values a tree holds. -/
def szT : T → Nat
  | .sl rows => szR rows + 1
  | .agg cs => szL cs
  | _ => 1
def szL : List T → Nat
  | [] => 0
  | t :: ts => szT t + szL ts
def szR : List (List T) → Nat
  | [] => 0
  | r :: rs => szL r + szR rs
end
theorem szL_append : ∀ a b : List T, szL (a ++ b) = szL a + szL b
  | [], b => by simp [szL]
  | x :: a, b => by simp only [List.cons_append, szL, szL_append a b]; omega
/-- A measure of readings. -/
structure Bulk {H : Type} (f : DataW H → Nat) : Prop where
  one : ∀ d, 1 ≤ f d
  agg : ∀ l, (l.map f).sum ≤ f (.agg l)
  slice : ∀ l r, (l.map f).sum + 1 ≤ f (.slice l r)

section
variable {P : Program} {L : List TypeId} {H : Type} {enc : TypeId × Value → H} {w : World} {sp : Nat → Bool} {held : Bool} {f : DataW H → Nat}
theorem fields_sz {n : Nat} {cs : List Value} (ih : ∀ t cs x, t ∈ L → DataW.trod enc P w 0 sp held n t cs = some x → ∃ ts, RelL w (fun _ => False) ts cs ∧ HasTy P n t ts ∧ szL ts ≤ f x.1) :
    ∀ (fs : List Field) (xs : List (DataW H × List MemPlace)) (o N : Nat), fieldsOk P L o fs N = true → xs.length = fs.length → (∀ (j : Nat) g, fs[j]? = some g → DataW.trod enc P w 0 sp held n g.type ((cs.drop g.offset).take (P.cellsOf g.type)) = xs[j]?) → cs.length = N →
      ∃ ts, RelL w (fun _ => False) ts (cs.drop o) ∧ allTys (HasTy P n) (fs.map (·.type)) ts ∧ szL ts ≤ (xs.map fun x => f x.1).sum
  | [], xs, o, N, h, hn, _, hl => by
    simp only [fieldsOk, beq_iff_eq] at h
    exact ⟨[], by simp only [RelL]; rw [List.drop_eq_nil_of_le (by omega)], rfl, by simp [szL]⟩
  | g :: fs, [], o, N, h, hn, _, hl => by simp at hn
  | g :: fs, x :: xs, o, N, h, hn, hx, hl => by
    simp only [fieldsOk, Bool.and_eq_true, beq_iff_eq, List.contains_iff_mem] at h
    obtain ⟨⟨h1, h2⟩, h3⟩ := h
    have hx0 := hx 0 g rfl
    simp only [List.getElem?_cons_zero] at hx0
    obtain ⟨a, ha, hta, hsa⟩ := ih _ _ _ h2 hx0
    obtain ⟨b, hb, htb, hsb⟩ := fields_sz ih fs xs _ N h3 (by simpa using hn) (fun j k hk => by simpa using hx (j + 1) k (by simpa using hk)) hl
    refine ⟨a ++ b, ?_, ⟨a, b, rfl, hta, htb⟩, ?_⟩
    · have := RelL.append ha hb
      rw [h1, ← List.drop_drop, List.take_append_drop] at this
      exact this
    · rw [szL_append]; simp only [List.map_cons, List.sum_cons]; omega
theorem rep_sz {n : Nat} {cs : List Value} {e : TypeId} (he : e ∈ L) (ih : ∀ t cs x, t ∈ L → DataW.trod enc P w 0 sp held n t cs = some x → ∃ ts, RelL w (fun _ => False) ts cs ∧ HasTy P n t ts ∧ szL ts ≤ f x.1) :
    ∀ (k i : Nat) (xs : List (DataW H × List MemPlace)), xs.length = k → (∀ j, j < k → DataW.trod enc P w 0 sp held n e ((cs.drop ((i + j) * P.cellsOf e)).take (P.cellsOf e)) = xs[j]?) → cs.length = (i + k) * P.cellsOf e →
      ∃ ts, RelL w (fun _ => False) ts (cs.drop (i * P.cellsOf e)) ∧ allTys (HasTy P n) (List.replicate k e) ts ∧ szL ts ≤ (xs.map fun x => f x.1).sum
  | 0, i, xs, hn, _, hl => by
    exact ⟨[], by simp only [RelL]; rw [List.drop_eq_nil_of_le (by rw [hl]; simp)], rfl, by simp [szL]⟩
  | k + 1, i, [], hn, hx, hl => by simp at hn
  | k + 1, i, x :: xs, hn, hx, hl => by
    have hx0 := hx 0 (by omega)
    simp only [List.getElem?_cons_zero, Nat.add_zero] at hx0
    obtain ⟨a, ha, hta, hsa⟩ := ih _ _ _ he hx0
    obtain ⟨b, hb, htb, hsb⟩ := rep_sz he ih k (i + 1) xs (by simpa using hn) (fun j hj => by have := hx (j + 1) (by omega); rw [show i + (j + 1) = i + 1 + j by omega] at this; simpa using this) (by rw [hl]; congr 1; omega)
    refine ⟨a ++ b, ?_, ⟨a, b, rfl, hta, htb⟩, ?_⟩
    · have := RelL.append ha hb
      rw [show (i + 1) * P.cellsOf e = i * P.cellsOf e + P.cellsOf e by rw [Nat.add_mul]; omega, ← List.drop_drop, List.take_append_drop] at this
      exact this
    · rw [szL_append]; simp only [List.map_cons, List.sum_cons]; omega
theorem rows_sz : ∀ (rows : List (List T)) (xs : List (DataW H × List MemPlace)), rows.length ≤ xs.length → (∀ (i : Nat) (r : List T), rows[i]? = some r → ∃ x : DataW H × List MemPlace, xs[i]? = some x ∧ szL r ≤ f x.1) → szR rows ≤ (xs.map fun x => f x.1).sum
  | [], xs, _, _ => by simp [szR]
  | r :: rows, [], hn, _ => by simp at hn
  | r :: rows, x :: xs, hn, h => by
    obtain ⟨y, hy, hs⟩ := h 0 r rfl
    simp only [List.getElem?_cons_zero, Option.some.injEq] at hy
    subst hy
    have := rows_sz rows xs (by simpa using hn) fun i q hq => by simpa using h (i + 1) q (by simpa using hq)
    simp only [szR, List.map_cons, List.sum_cons]; omega

theorem trod_sz (hL : plainTys P L = true) (hf : Bulk f) : ∀ (n : Nat) (t : TypeId) (cs : List Value) (x : DataW H × List MemPlace), t ∈ L →
    DataW.trod enc P w 0 sp held n t cs = some x → ∃ ts, RelL w (fun _ => False) ts cs ∧ HasTy P n t ts ∧ szL ts ≤ f x.1 := by
  intro n
  induction n with
  | zero => intro t cs x _ h; simp [DataW.trod] at h
  | succ n ih =>
    intro t cs x ht h
    have hp := plain_mem hL ht
    have one : ∀ {y : T} {v : Value}, v.oneCell' = true → RelT w (fun _ => False) y v → RelL w (fun _ => False) [y] [v] := fun h1 h2 => by simp only [RelL]; exact ⟨_, _, rfl, h1, h2, rfl⟩
    have h1x := hf.one x.1
    unfold plainTy at hp
    split at hp
    · rename_i hu
      obtain ⟨b, rfl, rfl⟩ : ∃ b, cs = [.bool b] ∧ x = (.lit (.bool b), []) := by
        unfold DataW.trod at h
        rw [hu] at h
        split at h <;> simp_all
      exact ⟨[.bool b], one rfl (by simp [RelT]), by simp [HasTy, hu], by simpa [szL, szT] using h1x⟩
    · rename_i k hu
      obtain ⟨m, rfl, rfl, hw⟩ := DataW.trod_int hu h
      exact ⟨[.int k m], one rfl (by simp [RelT]), by simp [HasTy, hu, hw], by simpa [szL, szT] using h1x⟩
    · rename_i hu
      obtain ⟨s, rfl, rfl, hs⟩ := DataW.trod_string hu h
      exact ⟨[.str s], one rfl (by simp [RelT]), by simp [HasTy, hu, hs], by simpa [szL, szT] using h1x⟩
    · rename_i e hu
      simp only [Bool.and_eq_true, List.contains_iff_mem, decide_eq_true_eq] at hp
      obtain ⟨he, hpos⟩ := hp
      rcases DataW.trod_slice hu h with ⟨rfl, rfl⟩ | ⟨a, len, cap, elems, rest, m, hm, rfl, rfl, _, hlc, hcap, hel, hget, _, _⟩
      · exact ⟨[.sl []], one rfl (by simp [RelT]), by simp [HasTy, hu], by simpa [szL, szT, szR] using h1x⟩
      · obtain rfl : n = m := by omega
        have hrow : ∀ i, i < len → ∃ r : List T, (∃ cs', w.cells? 0 (a.add (i * P.cellsOf e)) (P.cellsOf e) = some cs' ∧ RelL w (fun _ => False) r cs') ∧ HasTy P n e r ∧ ∃ y, elems[i]? = some y ∧ szL r ≤ f y.1 := by
          intro i hi
          have h1 := hget i hi
          have h2 : ∃ y, elems[i]? = some y := ⟨elems[i], List.getElem?_eq_getElem (by omega)⟩
          obtain ⟨y, hy⟩ := h2
          rw [hy] at h1
          obtain ⟨cs', h3, h4⟩ := Option.bind_eq_some_iff.1 h1
          obtain ⟨ts, h5, h6, h7⟩ := ih e cs' y he h4
          exact ⟨ts, ⟨cs', h3, h5⟩, h6, y, hy, h7⟩
        obtain ⟨rows, hlen, hq⟩ := choose_rows len hrow
        refine ⟨[.sl rows], ?_, ?_, ?_⟩
        · simp only [RelL]
          refine ⟨_, [], rfl, rfl, ?_, rfl⟩
          simp only [RelT]
          cases rows with
          | nil =>
            simp at hlen
            subst hlen
            exact .inl ⟨rfl, _, _, rfl⟩
          | cons r0 rows =>
            right
            obtain ⟨⟨cs0, h3, h4⟩, _⟩ := hq 0 r0 rfl
            obtain ⟨h5, h6⟩ := cells_get h3
            have hc0 : ∃ v, cs0[0]? = some v := ⟨cs0[0], List.getElem?_eq_getElem (by omega)⟩
            obtain ⟨v0, hv0⟩ := hc0
            have h60 := h6 0 v0 hv0
            simp only [Nat.zero_mul, add_zero] at h60
            obtain ⟨hb, hs⟩ := cell_in h60
            obtain ⟨b, o, sp'⟩ := a
            simp only at hb hs
            subst hs
            have hat : ∀ i r, (r0 :: rows)[i]? = some r → r.length = P.cellsOf e ∧ RelAt w (fun _ => False) b (o + i * P.cellsOf e) r := by
              intro i r hr
              obtain ⟨⟨cs', h3, h4⟩, _⟩ := hq i r hr
              obtain ⟨h5, h6⟩ := cells_get h3
              refine ⟨by rw [← RelL.length h4, h5], RelAt.of_relL h4 fun j v hj => ?_⟩
              have h7 := h6 j v hj
              rw [add_none, add_none] at h7
              exact h7
            exact ⟨b, o, cap, P.cellsOf e, by rw [hlen], hb, fun h => h, by omega, RelRows.of_rows _ _ hat⟩
        · simp only [HasTy, hu]
          refine ⟨rows, rfl, by omega, fun r hr => ?_⟩
          obtain ⟨i, hi⟩ := List.getElem?_of_mem hr
          exact (hq i r hi).2.1
        · have h1 := rows_sz (f := f) rows elems (by omega) fun i r hr => (hq i r hr).2.2
          have h2 := hf.slice (elems.map (·.1)) (rest.map (·.1))
          rw [List.map_map] at h2
          simp only [szL, szT]
          simp only [Function.comp_def] at h2 ⊢
          omega
    · rename_i fs hu
      obtain ⟨xs, m, hm, rfl, hl, hxl, hg⟩ := DataW.trod_struct hu h
      obtain rfl : n = m := by omega
      obtain ⟨ts, h1, h2, h3⟩ := fields_sz (cs := cs) (f := f) ih fs.toList xs 0 _ hp (by simpa using hxl) (fun j g hj => hg j g (by simpa using hj)) hl
      refine ⟨ts, by simpa using h1, by simpa [HasTy, hu] using h2, ?_⟩
      have := hf.agg (xs.map (·.1))
      rw [List.map_map] at this
      simp only [Function.comp_def] at this ⊢
      omega
    · rename_i k e hu
      simp only [Bool.and_eq_true, List.contains_iff_mem, beq_iff_eq] at hp
      obtain ⟨xs, m, hm, rfl, hl, hxl, hg⟩ := DataW.trod_array hu h
      obtain rfl : n = m := by omega
      obtain ⟨ts, h1, h2, h3⟩ := rep_sz (cs := cs) (f := f) hp.1 ih k 0 xs hxl (fun j hj => by rw [Nat.zero_add]; exact hg j hj) (by rw [hl, hp.2]; simp)
      refine ⟨ts, by simpa using h1, by simpa [HasTy, hu] using h2, ?_⟩
      have := hf.agg (xs.map (·.1))
      rw [List.map_map] at this
      simp only [Function.comp_def] at this ⊢
      omega
    · cases hp

theorem arg_sz (hL : plainTys P L = true) (hf : Bulk f) {t : TypeId} (ht : t ∈ L) {v : Value} {base : Nat} (hv : Value.okWide P w .any base t v) {d : DataW H} {ps : List MemPlace}
    (h : DataW.Trod enc P w 0 sp held t v d ps) : ∃ x, RelT w (fun _ => False) x v ∧ (∃ n, HasArg P n t x) ∧ szT x ≤ f d := by
  obtain ⟨n, h⟩ := h
  obtain ⟨ts, h1, h2, h3⟩ := trod_sz hL hf n t _ _ ht h
  have hp := plain_mem hL ht
  have single : (∀ cs, v ≠ .agg cs) → ∃ x, ts = [x] ∧ RelT w (fun _ => False) x v ∧ szT x ≤ f d := by
    intro hne
    have hc : v.cells.toList = [v] := by cases v <;> first | rfl | exact absurd rfl (hne _)
    rw [hc] at h1
    cases ts with
    | nil => simp only [RelL] at h1; cases h1
    | cons x xs =>
      simp only [RelL] at h1
      obtain ⟨_, _, e, _, hr, hrs⟩ := h1
      simp only [List.cons.injEq] at e
      obtain ⟨rfl, rfl⟩ := e
      have := RelL.length hrs
      simp at this
      have e : xs = [] := List.eq_nil_of_length_eq_zero this.symm
      subst e
      exact ⟨x, rfl, hr, by simpa [szL] using h3⟩
  have agg : (∃ cs, v = .agg cs) → ∃ x, x = T.agg ts ∧ RelT w (fun _ => False) x v ∧ szT x ≤ f d := by
    rintro ⟨cs, rfl⟩
    exact ⟨_, rfl, by simp only [RelT]; exact ⟨cs, rfl, by simpa [Value.cells] using h1⟩, by simpa [szT] using h3⟩
  unfold plainTy at hp
  split at hp
  · rename_i hu
    obtain ⟨b, rfl⟩ := okWide_bool hu hv
    obtain ⟨x, rfl, hr, hs⟩ := single (fun _ h => by cases h)
    exact ⟨x, hr, ⟨n, by simp only [HasArg, hu]; exact h2⟩, hs⟩
  · rename_i k hu
    obtain ⟨b, rfl⟩ := okWide_int hu hv
    obtain ⟨x, rfl, hr, hs⟩ := single (fun _ h => by cases h)
    exact ⟨x, hr, ⟨n, by simp only [HasArg, hu]; exact h2⟩, hs⟩
  · rename_i hu
    obtain ⟨b, rfl⟩ := okWide_string hu hv
    obtain ⟨x, rfl, hr, hs⟩ := single (fun _ h => by cases h)
    exact ⟨x, hr, ⟨n, by simp only [HasArg, hu]; exact h2⟩, hs⟩
  · rename_i e hu
    obtain ⟨a, l, c, rfl⟩ := okWide_slice hu hv
    obtain ⟨x, rfl, hr, hs⟩ := single (fun _ h => by cases h)
    exact ⟨x, hr, ⟨n, by simp only [HasArg, hu]; exact h2⟩, hs⟩
  · rename_i fs hu
    obtain ⟨cs, rfl, _⟩ := okWide_struct hu hv
    obtain ⟨x, rfl, hr, hs⟩ := agg ⟨_, rfl⟩
    exact ⟨_, hr, ⟨n, by simp only [HasArg, hu]; exact ⟨_, rfl, h2⟩⟩, hs⟩
  · rename_i k e hu
    have : ∃ cs, v = .agg cs := by
      simp only [Value.okWide, hu] at hv
      cases v <;> simp_all
    obtain ⟨cs, rfl⟩ := this
    obtain ⟨x, rfl, hr, hs⟩ := agg ⟨_, rfl⟩
    exact ⟨_, hr, ⟨n, by simp only [HasArg, hu]; exact ⟨_, rfl, h2⟩⟩, hs⟩
  · cases hp

theorem args_sz (hL : plainTys P L = true) (hf : Bulk f) {base : Nat} : ∀ {tys : List TypeId} {vs : List Value} {ds : List (DataW H)} {ps : List MemPlace}, (∀ t ∈ tys, t ∈ L) →
    (∀ (j : Nat) t v, tys[j]? = some t → vs[j]? = some v → Value.okWide P w .any base t v) → DataW.TrodAll enc P w 0 sp held tys vs ds ps → ∃ xs, RelA w (fun _ => False) xs vs ∧ HasArgs P tys xs ∧ szL xs ≤ (ds.map f).sum
  | [], vs, ds, ps, _, _, h => by
    obtain ⟨rfl, rfl, rfl⟩ := trodAll_nil h
    exact ⟨[], by simp [RelA], rfl, by simp [szL]⟩
  | t :: tys, vs, ds, ps, ht, hv, h => by
    obtain ⟨v, vs1, d, ds1, a, b, rfl, rfl, rfl, h1, h2⟩ := trodAll_cons h
    obtain ⟨x, k1, k2, k5⟩ := arg_sz hL hf (ht t (List.mem_cons_self ..)) (hv 0 t v rfl rfl) h1
    obtain ⟨xs, k3, k4, k6⟩ := args_sz hL hf (fun u hu => ht u (List.mem_cons_of_mem _ hu)) (fun j u y h1 h2 => hv (j + 1) u y (by simpa using h1) (by simpa using h2)) h2
    exact ⟨x :: xs, by simp only [RelA]; exact ⟨v, vs1, rfl, k1, k3⟩, ⟨x, xs, rfl, k2, k4⟩, by simp only [szL, List.map_cons, List.sum_cons]; omega⟩

/-- A law whose arguments are of bounded size. -/
theorem law_contract_sz {W : World} {base B : Nat} {args : Array Value} {ds gs : List (DataW H)} {before : List MemPlace} {g : FuncId} {fn : Func} {s : ChangeSpec} {tb : TypeId} {apart fresh handsOn again : Bool}
    (hL : plainTys P L = true) (hpar : ∀ t ∈ fn.params.toList, t ∈ L) (hres : fn.resultTypes = #[tb]) (hb : P.underlying tb = some .bool) (hvars : s.vars = []) (hfn : ∀ ds : List (DataW H), ds.length = fn.params.size → s.fn H ds = { results := [.lit (.bool true)], args := ds })
    (hf : Bulk f) (hB : ((ds ++ gs).map f).sum ≤ B) (hcalls : ∀ xs, HasArgs P fn.params.toList xs → szL xs ≤ B → CallsOk P g xs (.bool true))
    (hval : ∀ (j : Nat) t v, fn.params[j]? = some t → args[j]? = some v → Value.okWide P W .any base t v)
    (hW : DataW.Whole enc P fn.params.toList s.vars apart W args.toList ds gs before) (hg : GOk W fun _ => False) :
    Calls P g args W fun e W' => ∃ v, e = .returned v ∧ s.post enc P fn apart fresh handsOn again W args v W' := by
  have hW' := hW
  obtain ⟨p, q, hA, hV, rfl, hfz, hnd⟩ := hW
  rw [hvars] at hV
  obtain ⟨rfl, rfl⟩ := trodVars_none hV
  obtain ⟨xs, hr, hx, hsz⟩ := args_sz hL hf hpar (fun j t v h1 h2 => hval j t v (by simpa using h1) (by simpa using h2)) hA
  rw [List.append_nil] at hB
  have hlen : ds.length = fn.params.size := by
    have := trod_len hA
    simpa using this
  refine ((hcalls xs hx (by omega)).calls hg hr).mono ?_
  rintro e w' ⟨v, rfl, hbl, hv⟩
  simp only [RelT] at hv
  subst hv
  have hlt := hW'.lt
  have hargs : ∀ sp : Nat → Bool, (∀ x ∈ p, sp x.block = true) → DataW.TrodAll enc P w' 0 sp true fn.params.toList args.toList ds p := fun sp hsp =>
    args_again hL rfl hpar hA (fun x hx => hbl.same (hlt x (by simpa using hx))) hsp
  have hrs : ∀ (b : Nat) (sp : Nat → Bool) (hd : Bool), DataW.TrodAll enc P w' b sp hd fn.resultTypes.toList ((Value.bool true).resultList fn.resultTypes.size) [.lit (.bool true)] [] := fun b sp hd => by
    rw [hres]; exact trodAll_cons_mk (shut_bool hb _) trodAll_mk0
  have he : s.fn H (ds ++ []) = { results := [.lit (.bool true)], args := ds } := by rw [List.append_nil]; exact hfn ds hlen
  have hv0 : ∀ sp : Nat → Bool, DataW.TrodVars enc P w' sp s.vars [] [] := fun sp => by rw [hvars]; rfl
  have hev : (s.fn H (ds ++ [])).vars = [] := by rw [he]
  refine ⟨_, rfl, ds, [], p ++ [], [], p, [], hW', by rw [he]; exact hrs _ _ _, by rw [he]; exact hargs _ (fun x hx => by simpa using hlt x (by simpa using hx)), by rw [hev]; exact hv0 _, hbl.frame _, fun _ => ?_⟩
  refine ⟨ok_one hres rfl (okWide_bool_mk hb _), _, _, ([] ++ p) ++ [], ⟨[] ++ p, [], trodAll_append (hargs _ (fun _ _ => rfl)) (hrs _ _ _), hv0 _, rfl, ?_, ?_⟩, ?_⟩
  · intro b off hp
    rw [hbl.frozen (hlt _ (by simpa using hp))]
    exact hfz b off (by simpa using hp)
  · intro ha
    simpa using hnd ha
  · intro x hx _
    simpa using hx
end
end Go.DM
