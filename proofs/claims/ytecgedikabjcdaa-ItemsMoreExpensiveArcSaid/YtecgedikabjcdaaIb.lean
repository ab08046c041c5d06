import Derived.Test.YtecgedikabjcdaaIa
import Derived.Test.YtecgedikabjcdaaMe
import Derived.Test.YtecgedikabjcdaaI0b
namespace Go.Proofs
open Go.DM
set_option linter.unusedSimpArgs false
set_option linter.unusedVariables false

def headBad (n : Normal) : Prop := n.terms < 0 ∨ 120 < n.terms ∨ n.nonterms < 1 ∨ 1000 < n.nonterms ∨ n.start < 0 ∨ n.nonterms ≤ n.start ∨ 600 < (n.rules.length : Int)
instance (n : Normal) : Decidable (headBad n) := by unfold headBad; infer_instance
def ruleBad (n : Normal) (r : Rule) : Prop := r.head < 0 ∨ n.nonterms ≤ r.head ∨ r.price < 0 ∨ 1000 < r.price ∨ r.origin < -1
instance (n : Normal) (r : Rule) : Decidable (ruleBad n r) := by unfold ruleBad; infer_instance
def bodyOk (n : Normal) (r : Rule) : Prop :=
  (r.kind = 1 ∧ r.a = 0 ∧ r.b = 0) ∨ (r.kind = 2 ∧ 0 ≤ r.a ∧ r.a < n.terms ∧ r.b = 0) ∨ (r.kind = 3 ∧ 0 ≤ r.a ∧ r.a < n.nonterms ∧ r.b = 0) ∨ (r.kind = 4 ∧ 0 ≤ r.a ∧ r.a < n.nonterms ∧ 0 ≤ r.b ∧ r.b < n.nonterms)
instance (n : Normal) (r : Rule) : Decidable (bodyOk n r) := by unfold bodyOk; infer_instance
def okRule (n : Normal) (i : Nat) : Bool := decide (¬ ruleBad n (n.rules.getD i default) ∧ bodyOk n (n.rules.getD i default))
def validN (n : Normal) : Bool := !decide (headBad n) && (List.range n.rules.length).all (okRule n)

set_option maxRecDepth 20000 in
theorem t44 {Γ : Env} (hΓ : EnvOk Try.prog Γ) (n : Normal) (hl : n.rules.length ≤ 9223372036854775807) : CallsOk Try.prog 44 [n.enc] (.bool (validN n)) := by
  refine c44.ok (by simp) (initSt_sat ?_)
  simp [Normal.enc]
  refine SatD.regSeq hΓ follows [1] ?_
  simp [d44r0]
  refine SatD.seq ?_
  refine SatD.regToS hΓ follows [(1, .ptr 1002 0), (41, .v (.bool (decide (headBad n))))] ?_ ?_
  · simp [d44r1]
    repeat' (first | apply And.intro | intro _)
    all_goals first | omega | (simp [headBad]; omega) | (rename_i hh; revert hh; simp [headBad]; omega)
  refine SatD.cond rfl (fun h => ?_) (fun h => ?_)
  · refine SatD.regSeq hΓ follows [2] ?_
    simp [d44r2]
    refine SatD.ret ?_
    simp [d44res, validN, h]
  simp only [decide_eq_false_iff_not] at h
  refine SatD.skip ?_
  simp
  refine SatD.seq ?_
  refine SatD.regSeq hΓ follows [1, 3] ?_
  simp [d44r3]
  refine SatD.block ?_ -- 0
  refine SatD.loop (fun y : Nat => ⟨DM.look [(1, .ptr 1002 0), (3, .v (ti y))], obs [(1002, .box [.v (ti n.terms), .v (ti n.nonterms), .v (ti n.start), .v (.sl (rulesT n.rules))])], 2000, 1000, []⟩)
    (fun y => y ≤ n.rules.length ∧ ∀ i, i < y → okRule n i = true) (fun y => n.rules.length - y) 0 (Le.keep ?_ ?_ ?_ ?_) (by simp) (fun y hy => ?_)
  · simp
  · simp
  · simp
  · simp
  obtain ⟨hy1, hy2⟩ := hy
  refine SatD.seq ?_
  refine SatD.regSeq hΓ follows [1, 3, 46] ?_
  simp [d44r4]
  refine SatD.cond rfl (fun hc => ?_) (fun hc => ?_)
  · simp at hc
    refine SatD.skip ?_
    simp
    refine SatD.seq ?_
    refine SatD.block ?_ -- 1
    refine SatD.regSeq hΓ follows [1, 3, 4] ?_
    have hrow := rowAt_rules hc
    simp [d44r5, hrow, hc, Rule.enc]
    obtain ⟨r, hr⟩ : ∃ r, n.rules[y] = r := ⟨_, rfl⟩
    simp only [hr]
    have hgd : n.rules.getD y default = r := by simp [hc, hr]
    refine SatD.seq ?_
    refine SatD.regToS hΓ follows [(1, .ptr 1002 0), (3, .v (ti y)), (4, .ptr 2157 0), (78, .v (.bool (decide (ruleBad n r))))] ?_ ?_
    · simp [d44r6]
      repeat' (first | apply And.intro | intro _)
      all_goals first | omega | (simp [ruleBad]; omega) | (rename_i hh; revert hh; simp [ruleBad]; omega) | trace_state
    refine SatD.cond rfl (fun h2 => ?_) (fun h2 => ?_)
    · refine SatD.regSeq hΓ follows [2] ?_
      simp [d44r7]
      refine SatD.ret ?_
      simp only [decide_eq_true_eq] at h2
      have := all_range_false (p := okRule n) hc (by unfold okRule; rw [hgd]; simp [h2])
      simp [d44res, validN, this]
    · simp only [decide_eq_false_iff_not] at h2
      refine SatD.skip ?_
      simp
      refine SatD.regSeq hΓ follows [1, 3, 4, 5] ?_
      simp [d44r8]
      refine SatD.seq ?_
      refine SatD.regSeq hΓ follows [1, 3, 4, 5, 80] ?_
      simp [d44r9]
      refine SatD.to ⟨DM.look [(1, .ptr 1002 0), (3, .v (ti y)), (5, .v (.bool (decide (bodyOk n r))))], obs [(1002, .box [.v (ti n.terms), .v (ti n.nonterms), .v (ti n.start), .v (.sl (rulesT n.rules))])], 9000, 1000, []⟩ ?_ ?_
      · refine SatD.block ?_ -- 2
        refine SatD.regSeq hΓ follows [1, 3, 4, 5, 80, 81] ?_
        simp [d44r10]
        refine SatD.cond rfl (fun e1 => ?_) (fun e1 => ?_)
        · simp only [decide_eq_true_eq] at e1
          refine SatD.regToN hΓ follows [(1, .ptr 1002 0), (3, .v (ti y)), (5, .v (.bool (decide (bodyOk n r))))] ?_ ?_
          rotate_left
          · simp only [blockQ]
            refine ⟨trivial, Le.keep ?_ ?_ ?_ ?_⟩ <;> simp
          · simp [d44r11, bodyOk, e1]
            repeat' (first | apply And.intro | intro _)
            all_goals first | omega | (rename_i hh; simp [hh])
        simp only [decide_eq_false_iff_not] at e1
        refine SatD.regSeq hΓ follows [1, 3, 4, 5, 80, 91] ?_
        simp [d44r12]
        refine SatD.cond rfl (fun e2 => ?_) (fun e2 => ?_)
        · simp only [decide_eq_true_eq] at e2
          refine SatD.regToN hΓ follows [(1, .ptr 1002 0), (3, .v (ti y)), (5, .v (.bool (decide (bodyOk n r))))] ?_ ?_
          rotate_left
          · simp only [blockQ]
            refine ⟨trivial, Le.keep ?_ ?_ ?_ ?_⟩ <;> simp
          · simp [d44r13, bodyOk, e2]
            repeat' (first | apply And.intro | intro _)
            all_goals first | omega | (rw [Bool.eq_iff_iff]; simp; omega)
        simp only [decide_eq_false_iff_not] at e2
        refine SatD.regSeq hΓ follows [1, 3, 4, 5, 80, 108] ?_
        simp [d44r14]
        refine SatD.cond rfl (fun e3 => ?_) (fun e3 => ?_)
        · simp only [decide_eq_true_eq] at e3
          refine SatD.regToN hΓ follows [(1, .ptr 1002 0), (3, .v (ti y)), (5, .v (.bool (decide (bodyOk n r))))] ?_ ?_
          rotate_left
          · simp only [blockQ]
            refine ⟨trivial, Le.keep ?_ ?_ ?_ ?_⟩ <;> simp
          · simp [d44r15, bodyOk, e3]
            repeat' (first | apply And.intro | intro _)
            all_goals first | omega | (rw [Bool.eq_iff_iff]; simp; omega)
        simp only [decide_eq_false_iff_not] at e3
        refine SatD.regSeq hΓ follows [1, 3, 4, 5, 125] ?_
        simp [d44r16]
        refine SatD.cond rfl (fun e4 => ?_) (fun e4 => ?_)
        · simp only [decide_eq_true_eq] at e4
          refine SatD.regToN hΓ follows [(1, .ptr 1002 0), (3, .v (ti y)), (5, .v (.bool (decide (bodyOk n r))))] ?_ ?_
          rotate_left
          · simp only [blockQ]
            refine ⟨trivial, Le.keep ?_ ?_ ?_ ?_⟩ <;> simp
          · simp [d44r17, bodyOk, e4]
            repeat' (first | apply And.intro | intro _)
            all_goals first | omega | (rw [Bool.eq_iff_iff]; simp; omega)
        · simp only [decide_eq_false_iff_not] at e4
          have hb : ¬ bodyOk n r := by unfold bodyOk; omega
          refine SatD.skip ?_
          simp only [blockQ]
          refine ⟨trivial, Le.keep ?_ ?_ ?_ ?_⟩ <;> simp [hb]
      simp
      refine SatD.regSeq hΓ follows [1, 3, 150] ?_
      simp [d44r18]
      refine SatD.cond rfl (fun h3 => ?_) (fun h3 => ?_)
      · refine SatD.regSeq hΓ follows [2] ?_
        simp [d44r19]
        refine SatD.ret ?_
        simp only [Bool.not_eq_true', decide_eq_false_iff_not] at h3
        have := all_range_false (p := okRule n) hc (by unfold okRule; rw [hgd]; simp [h3])
        simp [d44res, validN, this]
      · simp only [Bool.not_eq_false', decide_eq_true_eq] at h3
        refine SatD.skip ?_
        simp
        refine SatD.reg hΓ follows [1, 3] ?_
        simp [d44r20]
        refine ⟨y + 1, Le.keep ?_ ?_ ?_ ?_, ⟨?_, ?_⟩, ?_⟩
        · simp
        · simp
        · simp
        · simp
          exact (wrap_id (by omega)).symm
        · omega
        · intro i hi
          by_cases e : i = y
          · subst e; unfold okRule; rw [hgd]; simp [h2, h3]
          · exact hy2 i (by omega)
        · omega
  · simp at hc
    have hall := all_range_true (p := okRule n) (n := n.rules.length) (fun i hi => hy2 i (by omega))
    refine SatD.exit ?_
    simp
    refine SatD.regSeq hΓ follows [2] ?_
    simp [d44r21]
    refine SatD.ret ?_
    simp [d44res, validN, hall, h]
end Go.Proofs
namespace Go.Proofs
open Go.DM
set_option linter.unusedSimpArgs false
set_option linter.unusedVariables false

/- The trees read back. -/
@[simp] def unti : T → Int
  | .int _ n => n
  | _ => 0
def decRule : List T → Rule
  | [a, b, c, d, e, f] => ⟨unti a, unti b, unti c, unti d, unti e, unti f⟩
  | _ => default
def decArc : List T → Arc
  | [a, b, c, d, .sl o] => ⟨unti a, unti b, unti c, unti d, o.map fun x => (unti (x.getD 0 (ti 0)), unti (x.getD 1 (ti 0)))⟩
  | _ => default
def decInts (l : List (List T)) : List Int := l.map fun x => unti (x.getD 0 (ti 0))
def decEdge : List T → Edge
  | [a, .sl b, c, d, e] => ⟨unti a, decInts b, unti c, unti d, unti e⟩
  | _ => default
def decRules (l : List (List T)) : List Rule := l.map decRule
def decArcs (l : List (List T)) : List Arc := l.map decArc
def decEdges (l : List (List T)) : List Edge := l.map decEdge
theorem map_map_id {α β : Type} {f : α → β} {g : β → α} (h : ∀ a, g (f a) = a) (l : List α) : (l.map f).map g = l := by
  rw [List.map_map]; conv => rhs; rw [← List.map_id l]
  exact List.map_congr_left fun a _ => h a
@[simp] theorem decRules_enc (l : List Rule) : decRules (rulesT l) = l := map_map_id (fun _ => rfl) l
@[simp] theorem decInts_enc (l : List Int) : decInts (intsT l) = l := map_map_id (fun _ => rfl) l
@[simp] theorem decArc_enc (a : Arc) : decArc a.enc = a := by
  cases a with
  | mk f t m c o =>
    simp only [decArc, Arc.enc, unti, opsT]
    congr 1
    exact map_map_id (fun _ => rfl) o
@[simp] theorem decArcs_enc (l : List Arc) : decArcs (arcsT l) = l := map_map_id decArc_enc l
@[simp] theorem decEdge_enc (a : Edge) : decEdge a.enc = a := by
  simp only [decEdge, Edge.enc, unti, decInts_enc]
@[simp] theorem decEdges_enc (l : List Edge) : decEdges (edgesT l) = l := map_map_id decEdge_enc l
def decN : T → Normal
  | .agg [a, b, c, .sl r] => ⟨unti a, unti b, unti c, decRules r⟩
  | _ => ⟨0, 0, 0, []⟩
def decL : T → Lattice
  | .agg [a, .sl b, .sl c] => ⟨unti a, decArcs b, decInts c⟩
  | _ => ⟨0, [], []⟩
@[simp] theorem decN_enc' (a b c : Int) (l : List Rule) : decN (.agg [ti a, ti b, ti c, .sl (rulesT l)]) = ⟨a, b, c, l⟩ := by simp [decN]
@[simp] theorem decN_enc (n : Normal) : decN n.enc = n := by simp [Normal.enc]
@[simp] theorem decL_enc' (a : Int) (l : List Arc) (f : List Int) : decL (.agg [ti a, .sl (arcsT l), .sl (intsT f)]) = ⟨a, l, f⟩ := by simp [decL]
@[simp] theorem decL_enc (n : Lattice) : decL n.enc = n := by simp [Lattice.enc]

def fn44 : List T → T
  | [n] => .bool (validN (decN n))
  | _ => .bool false
def pre44 (ts : List T) : Prop := ∃ n : Normal, ts = [n.enc] ∧ n.rules.length ≤ 9223372036854775807
def Γ4 : Env := envOf [(44, specP pre44 fn44 true)]
theorem ok4 : EnvOk Try.prog Γ4 := by
  refine EnvOk.cons EnvOk.nil ?_
  rintro ts ⟨n, rfl, h⟩
  exact ⟨by simpa [fn44] using t44 EnvOk.nil n h, fun _ => rfl⟩

def smallN (n : Normal) : Bool := decide (n.nonterms ≤ 14 ∧ (n.rules.length : Int) ≤ 24 ∧ n.terms ≤ 6) && validN n
theorem t30 (n : Normal) (hl : n.rules.length ≤ 9223372036854775807) : CallsOk Try.prog 30 [n.enc] (.bool (smallN n)) := by
  have hΓ := ok4
  refine c30.ok (by simp) (initSt_sat ?_)
  simp [Normal.enc]
  refine SatD.regSeq hΓ follows [1, 2] ?_
  simp [d30r0]
  refine SatD.regToS hΓ follows [(2, .v (.bool (smallN n)))] ?_ ?_
  · simp [d30r1, Γ4, fn44, specP]
    repeat' (first | apply And.intro | intro _)
    all_goals first | exact ⟨n, rfl, hl⟩ | (simp [smallN, *]; done) | (simp [smallN]; intros; omega)
  refine SatD.ret ?_
  simp [d30res]

def Γ5 : Env := envOf [(30, specP pre44 (fun | [n] => .bool (smallN (decN n)) | _ => .bool false) true), (31, specP (fun ts => ∃ (l : Lattice) (t : Int), ts = [l.enc, ti t] ∧ l.final.length ≤ 9223372036854775807 ∧ l.arcs.length ≤ 9223372036854775807) (fun | [l, .int _ t] => .bool (validL (decL l) t) | _ => .bool false) true)]
theorem ok5 : EnvOk Try.prog Γ5 := by
  refine EnvOk.cons (EnvOk.cons EnvOk.nil ?_) ?_
  · rintro ts ⟨l, t, rfl, h1, h2⟩
    exact ⟨by simpa using t31 l t h1 h2, fun _ => rfl⟩
  · rintro ts ⟨n, rfl, h⟩
    exact ⟨by simpa using t30 n h, fun _ => rfl⟩

def fair (n : Normal) (l : Lattice) : Bool := smallN n && decide (l.states ≤ 11 ∧ (l.arcs.length : Int) ≤ 120) && validL l n.terms
theorem t10 (n : Normal) (l : Lattice) (hl : n.rules.length ≤ 9223372036854775807) (hf : l.final.length ≤ 9223372036854775807) (ha : l.arcs.length ≤ 9223372036854775807) : CallsOk Try.prog 10 [n.enc, l.enc] (.bool (fair n l)) := by
  have hΓ := ok5
  refine c10.ok (by simp) (initSt_sat ?_)
  simp [Normal.enc, Lattice.enc]
  refine SatD.regSeq hΓ follows [2, 3, 4] ?_
  simp [d10r0]
  refine SatD.regToS hΓ follows [(4, .v (.bool (fair n l)))] ?_ ?_
  · simp [d10r1, Γ5, specP]
    repeat' (first | apply And.intro | intro _)
    all_goals first | exact ⟨n, rfl, hl⟩ | exact ⟨n, rfl, hl⟩ | exact ⟨l, rfl, hf, ha⟩ | (simp [fair, *]; done) | (simp [fair]; intros; omega) | trace_state
  refine SatD.ret ?_
  simp [d10res]
end Go.Proofs
namespace Go.Proofs
open Go.DM
set_option linter.unusedSimpArgs false
set_option linter.unusedVariables false

def headsEq (x y : Edge) : Prop := x.head = y.head ∧ x.cost = y.cost ∧ x.l0 = y.l0 ∧ x.l1 = y.l1 ∧ x.tails.length = y.tails.length
instance (x y : Edge) : Decidable (headsEq x y) := by unfold headsEq; infer_instance
def okEdges (a : List Edge) : Prop := a.length ≤ 140737488355328 ∧ ∀ e ∈ a, e.tails.length ≤ 140737488355328

set_option maxRecDepth 20000 in
theorem t13 (a b : List Edge) (h1 : okEdges a) : CallsOk Try.prog 13 [.sl (edgesT a), .sl (edgesT b)] (.bool (decide (a = b))) := by
  have hΓ : EnvOk Try.prog (envOf []) := EnvOk.nil
  refine c13.ok (by simp) (initSt_sat ?_)
  simp
  refine SatD.regSeq hΓ follows [0, 1] ?_
  simp [d13r0]
  refine SatD.seq ?_
  refine SatD.regSeq hΓ follows [0, 1, 11] ?_
  simp [d13r1]
  refine SatD.cond rfl (fun h => ?_) (fun h => ?_)
  · refine SatD.regSeq hΓ follows [4] ?_
    simp [d13r2]
    refine SatD.ret ?_
    simp at h
    have : a ≠ b := by rintro rfl; simp at h
    simp [d13res, this]
  · simp at h
    have hab : a.length = b.length := by omega
    refine SatD.skip ?_
    simp
    refine SatD.seq ?_
    refine SatD.regSeq hΓ follows [0, 1, 5] ?_
    simp [d13r3]
    refine SatD.block ?_ -- 0
    refine SatD.loop (fun y : Nat => ⟨DM.look [(0, .v (.sl (edgesT a))), (1, .v (.sl (edgesT b))), (5, .v (ti y))], obs [], 2000, 1000, []⟩) (fun y => y ≤ a.length ∧ ∀ i, i < y → a.getD i default = b.getD i default) (fun y => a.length - y) 0 (Le.keep ?_ ?_ ?_ ?_) (by simp) (fun y hy => ?_)
    · simp
    · simp
    · simp
    · simp
    obtain ⟨hy1, hy2⟩ := hy
    have hlen := h1.1
    refine SatD.seq ?_
    refine SatD.regSeq hΓ follows [0, 1, 5, 15] ?_
    simp [d13r4]
    refine SatD.cond rfl (fun hc => ?_) (fun hc => ?_)
    · simp at hc
      have hc' : y < b.length := by omega
      obtain ⟨p, hp⟩ : ∃ p, a[y] = p := ⟨_, rfl⟩
      obtain ⟨q, hq⟩ : ∃ q, b[y] = q := ⟨_, rfl⟩
      have hgp : a.getD y default = p := by simp [hc, hp]
      have hgq : b.getD y default = q := by simp [hc', hq]
      have hpl : p.tails.length ≤ 140737488355328 := h1.2 p (by rw [← hp]; exact List.getElem_mem hc)
      refine SatD.skip ?_
      simp
      refine SatD.seq ?_
      refine SatD.block ?_ -- 1
      refine SatD.seq ?_
      have hrow := rowAt_edges hc
      have hrow' := rowAt_edges hc'
      rw [hgp] at hrow
      rw [hgq] at hrow'
      refine SatD.regToS hΓ follows [(0, .v (.sl (edgesT a))), (1, .v (.sl (edgesT b))), (5, .v (ti y)), (69, .v (.bool (!decide (headsEq p q))))] ?_ ?_
      · simp [d13r5, hrow, hrow', hc, hc', Edge.enc]
        repeat' (first | apply And.intro | intro _)
        all_goals first | omega | (simp [headsEq, *]; done) | (unfold headsEq at *; omega) | (simp [headsEq, *]; omega) | trace_state
      refine SatD.cond rfl (fun h2 => ?_) (fun h2 => ?_)
      · refine SatD.regSeq hΓ follows [4] ?_
        simp [d13r6]
        refine SatD.ret ?_
        simp at h2
        have : a ≠ b := by
          rintro rfl
          rw [hp] at hq
          subst hq
          exact h2 ⟨rfl, rfl, rfl, rfl, rfl⟩
        simp [d13res, this]
      · simp at h2
        refine SatD.skip ?_
        simp
        refine SatD.regSeq hΓ follows [0, 1, 5, 6] ?_
        simp [d13r7]
        refine SatD.block ?_ -- 2
        refine SatD.loop (fun z : Nat => ⟨DM.look [(0, .v (.sl (edgesT a))), (1, .v (.sl (edgesT b))), (5, .v (ti y)), (6, .v (ti z))], obs [], 3000, 1000, []⟩) (fun z => z ≤ p.tails.length ∧ ∀ i, i < z → p.tails.getD i default = q.tails.getD i default) (fun z => p.tails.length - z) 0 (Le.keep ?_ ?_ ?_ ?_) (by simp) (fun z hz => ?_)
        · simp
        · simp
        · simp
        · simp
        obtain ⟨hz1, hz2⟩ := hz
        refine SatD.seq ?_
        refine SatD.regSeq hΓ follows [0, 1, 5, 6, 77] ?_
        simp [d13r8, hrow, hc, Edge.enc]
        refine SatD.cond rfl (fun hd => ?_) (fun hd => ?_)
        · simp at hd
          have hd' : z < q.tails.length := by rw [← h2.2.2.2.2]; exact hd
          have hz3 := rowAt_ints hd
          have hz4 := rowAt_ints hd'
          refine SatD.skip ?_
          simp
          refine SatD.seq ?_
          refine SatD.block ?_ -- 3
          refine SatD.regSeq hΓ follows [0, 1, 5, 6, 96] ?_
          simp [d13r9, hrow, hrow', hc, hc', Edge.enc, hd, hd', hz3, hz4]
          refine SatD.cond rfl (fun h3 => ?_) (fun h3 => ?_)
          · refine SatD.regSeq hΓ follows [4] ?_
            simp [d13r10]
            refine SatD.ret ?_
            simp at h3
            have : a ≠ b := by
              rintro rfl
              rw [hp] at hq
              subst hq
              exact h3 rfl
            simp [d13res, this]
          · simp at h3
            refine SatD.skip ?_
            simp
            refine SatD.reg hΓ follows [0, 1, 5, 6] ?_
            simp [d13r11]
            refine ⟨z + 1, Le.keep ?_ ?_ ?_ ?_, ⟨?_, ?_⟩, ?_⟩ -- next round
            · simp
            · simp
            · simp
            · simp
              exact (wrap_id (by omega)).symm
            · omega
            · intro i hi
              by_cases e : i = z
              · subst e; simp [hd, hd', h3]
              · exact hz2 i (by omega)
            · omega
        · simp at hd
          refine SatD.exit ?_
          simp -- exit 2
          refine SatD.reg hΓ follows [0, 1, 5] ?_
          simp [d13r12]
          refine ⟨y + 1, Le.keep ?_ ?_ ?_ ?_, ⟨?_, ?_⟩, ?_⟩ -- next round
          · simp
          · simp
          · simp
          · simp
            exact (wrap_id (by omega)).symm
          · omega
          · intro i hi
            by_cases e : i = y
            · subst e
              show a.getD i default = b.getD i default
              rw [hgp, hgq]
              obtain ⟨e1, e2, e3, e4, e5⟩ := h2
              have : p.tails = q.tails := List.ext_getElem e5 fun j hj hj' => by
                have := hz2 j (by omega)
                simpa [hj, hj'] using this
              cases p; cases q; simp_all
            · exact hy2 i (by omega)
          · omega
    · simp at hc
      refine SatD.exit ?_
      simp -- exit 0
      refine SatD.regSeq hΓ follows [4] ?_
      simp [d13r13]
      refine SatD.ret ?_
      have : a = b := List.ext_getElem hab fun j hj hj' => by
        have := hy2 j (by omega)
        simpa [hj, hj'] using this
      simp [d13res, this]
end Go.Proofs
namespace Go.Proofs
open Go.DM
set_option linter.unusedSimpArgs false
set_option linter.unusedVariables false

def edgeOf (nt st : Int) (r : Rule) (f t k : Int) (cost arg : Int) (tails : List Int) : Edge := ⟨idxI nt st r.head f t, tails, min cost Inf, k, arg⟩
def caps46 (nt st : Int) (r : Rule) (f t k : Int) : List T := [.box [ti nt, ti st], .box r.enc, .box [ti f], .box [ti t], .box [ti k]]
def okR (r : Rule) : Prop := 0 ≤ r.head ∧ r.head ≤ 1000 ∧ 0 ≤ r.price ∧ r.price ≤ 1000
def okF (f t : Int) : Prop := 0 ≤ f ∧ f ≤ t ∧ t ≤ 1000

theorem t46 (nt st : Int) (r : Rule) (f t k cost arg : Int) (tails : List Int) (h : sm nt st) (hr : okR r) (hf : okF f t) :
    CallsOk Try.prog 46 ([ti cost, ti arg, .sl (intsT tails)] ++ caps46 nt st r f t k) (.agg (edgeOf nt st r f t k cost arg tails).enc) := by
  have hΓ := ok1
  refine c46.ok (by simp [caps46]) (initSt_sat ?_)
  simp [caps46, Rule.enc]
  refine SatD.regSeq hΓ follows [0, 1, 2, 3, 4, 5, 6, 7, 11] ?_
  simp [d46r0]
  refine SatD.regSeq hΓ follows [11] ?_
  simp [d46r1, Γ1, spec37, fn37, pre37]
  refine ⟨⟨h, ?_⟩, ?_⟩
  · unfold okR at hr; unfold okF at hf; omega
  refine SatD.ret ?_
  simp [d46res, edgeOf, Edge.enc]

theorem t36 (a b : Edge) (ha : 0 ≤ a.head ∧ a.head ≤ 1000000000000) (hb : 0 ≤ b.head ∧ b.head ≤ 1000000000000) : CallsOk Try.prog 36 [.agg a.enc, .agg b.enc] (ti (a.head - b.head)) := by
  have hΓ : EnvOk Try.prog (envOf []) := EnvOk.nil
  refine c36.ok (by simp) (initSt_sat ?_)
  simp [Edge.enc]
  refine SatD.regSeq hΓ follows [2, 3, 4] ?_
  simp [d36r0]
  refine SatD.regSeq hΓ follows [4] ?_
  simp [d36r1]
  refine SatD.ret ?_
  simp [d36res]
  rw [wrap_id (by omega)]

def caps47 (nt st : Int) (r : Rule) (arcs : List Arc) (fin : List Int) (f t k : Int) : List T := [.box r.enc, .box [ti f], .box [ti t], .box [.fn (.func 46) (caps46 nt st r f t k)], .box [ti st, .sl (arcsT arcs), .sl (intsT fin)], .box [ti nt, ti st]]
theorem t34 (n : Normal) (l : Lattice) (k : Nat) (f t : Int) (hk : k < n.rules.length) :
    CallsOk Try.prog 34 [n.enc, l.enc, ti k, ti f, ti t] (.fn (.func 47) (caps47 n.nonterms l.states (n.rules.getD k default) l.arcs l.final f t k)) := by
  have hΓ := ok1
  refine c34.ok (by simp) (initSt_sat ?_)
  simp [Normal.enc, Lattice.enc]
  refine SatD.regSeq hΓ follows [5, 6, 7, 8, 9, 10] ?_
  simp [d34r0]
  refine SatD.regSeq hΓ follows [5, 6, 7, 8, 9, 11] ?_
  simp [d34r1, Γ1, spec32, fn32, pre32]
  refine ⟨⟨⟨n, rfl⟩, ⟨l, rfl⟩⟩, ?_⟩
  refine SatD.regSeq hΓ follows [6, 7, 8, 9, 11, 12] ?_
  have hrow := rowAt_rules hk
  simp [d34r2, hrow, hk, Rule.enc]
  generalize n.rules[k] = r
  refine SatD.le (Le.keep (o := []) (l := [(6, .v (.box [ti l.states, .sl (arcsT l.arcs), .sl (intsT l.final)])), (7, .v (.box [ti k])), (8, .v (.box [ti f])), (9, .v (.box [ti t])), (11, .v (.box [ti n.nonterms, ti l.states])), (12, .v (.box r.enc))]) (nxt' := 1100) ?_ ?_ ?_ ?_) ?_
  · simp
  · simp
  · simp
  · simp [Rule.enc]
  refine SatD.regSeq hΓ follows [6, 8, 9, 11, 12, 13] ?_
  simp [d34r3]
  refine SatD.le (Le.keep (o := []) (l := [(6, .v (.box [ti l.states, .sl (arcsT l.arcs), .sl (intsT l.final)])), (8, .v (.box [ti f])), (9, .v (.box [ti t])), (11, .v (.box [ti n.nonterms, ti l.states])), (12, .v (.box r.enc)), (13, .v (.box [.fn (.func 46) (caps46 n.nonterms l.states r f t k)]))]) (nxt' := 1200) ?_ ?_ ?_ ?_) ?_
  · simp
  · simp
  · simp
  · simp [caps46]
  refine SatD.regSeq hΓ follows [10] ?_
  simp [d34r4]
  refine SatD.ret ?_
  simp [d34res, caps47, caps46]
end Go.Proofs
namespace Go.Proofs
open Go.DM
set_option linter.unusedSimpArgs false
set_option linter.unusedVariables false

def pre46 (ts : List T) : Prop := ∃ (nt st : Int) (r : Rule) (f t k cost arg : Int) (tails : List Int), ts = [ti cost, ti arg, .sl (intsT tails), .box [ti nt, ti st], .box r.enc, .box [ti f], .box [ti t], .box [ti k]] ∧ sm nt st ∧ okR r ∧ okF f t
def fn46 : List T → T
  | [.int _ cost, .int _ arg, .sl tails, .box [.int _ nt, .int _ st], .box r, .box [.int _ f], .box [.int _ t], .box [.int _ k]] =>
    .agg (edgeOf nt st (decRule r) f t k cost arg (decInts tails)).enc
  | _ => .bool false
@[simp] theorem decRule_enc (r : Rule) : decRule r.enc = r := rfl
@[simp] theorem decRule_enc' (a b c d e f : Int) : decRule [ti a, ti b, ti c, ti d, ti e, ti f] = ⟨a, b, c, d, e, f⟩ := rfl
def Γ6 : Env := envOf [(37, spec37), (46, specP pre46 fn46 false)]
theorem ok6 : EnvOk Try.prog Γ6 := by
  refine EnvOk.cons (EnvOk.cons EnvOk.nil ?_) ?_
  · rintro ts ⟨nt, st, r, f, t, k, cost, arg, tails, rfl, h1, h2, h3⟩
    exact ⟨by simpa [fn46, caps46] using t46 nt st r f t k cost arg tails h1 h2 h3, by intro h; cases h⟩
  · intro ts h
    match ts, h with
    | [.agg [.int .i64 nt, .int .i64 st], .int .i64 h, .int .i64 f, .int .i64 t], h1 => exact ⟨t37 EnvOk.nil nt st h f t h1.1 h1.2, fun _ => rfl⟩

/-- The hyperedges that a rule has for a span. -/
def inst (nt st : Int) (r : Rule) (arcs : List Arc) (f t k : Int) : List Edge :=
  if r.kind = 1 then (if f = t then [edgeOf nt st r f t k r.price f []] else [])
  else if r.kind = 2 then (List.range arcs.length).flatMap fun i => if (arcs.getD i default).f = f ∧ (arcs.getD i default).t = t ∧ (arcs.getD i default).term = r.a then [edgeOf nt st r f t k (r.price + (arcs.getD i default).cost) i []] else []
  else if r.kind = 3 then [edgeOf nt st r f t k r.price f [idxI nt st r.a f t]]
  else if r.kind = 4 then (List.range (t - f + 1).toNat).map fun j : Nat => edgeOf nt st r f t k r.price (f + j) [idxI nt st r.a f (f + j), idxI nt st r.b (f + j) t]
  else []
def yieldsOf (l : List Edge) : List (List T) := l.map fun e => [.agg e.enc]
def okR2 (r : Rule) : Prop := okR r ∧ (r.kind = 3 → 0 ≤ r.a ∧ r.a ≤ 1000) ∧ (r.kind = 4 → 0 ≤ r.a ∧ r.a ≤ 1000 ∧ 0 ≤ r.b ∧ r.b ≤ 1000)
def okArcs (l : List Arc) : Prop := l.length ≤ 140737488355328 ∧ ∀ a ∈ l, 0 ≤ a.cost ∧ a.cost ≤ Inf

@[simp] theorem obsNil : (obs [] = fun _ => none) = True := by simp; funext; rfl
@[simp] theorem decInts_nil : decInts [] = [] := rfl
@[simp] theorem decInts_one (a : Int) : decInts [[ti a]] = [a] := rfl
@[simp] theorem decInts_two (a b : Int) : decInts [[ti a], [ti b]] = [a, b] := rfl

/-- What an arc gives. -/
def termAt (nt st : Int) (r : Rule) (arcs : List Arc) (f t k : Int) (i : Nat) : List Edge :=
  if (arcs.getD i default).f = f ∧ (arcs.getD i default).t = t ∧ (arcs.getD i default).term = r.a then [edgeOf nt st r f t k (r.price + (arcs.getD i default).cost) i []] else []
def binAt (nt st : Int) (r : Rule) (f t k : Int) (j : Nat) : Edge := edgeOf nt st r f t k r.price (f + j) [idxI nt st r.a f (f + j), idxI nt st r.b (f + j) t]
theorem range_drop {n y : Nat} (h : y < n) : (List.range n).drop y = y :: (List.range n).drop (y + 1) := by
  rw [List.drop_eq_getElem_cons (by simpa using h)]
  simp

@[simp] theorem drop_range_self (n : Nat) : (List.range n).drop n = [] := List.drop_eq_nil_of_le (by simp)
@[simp] theorem chunk_one (a : T) : chunk 1 1 [a] = [[a]] := rfl
@[simp] theorem chunk_two (a b : T) : chunk 1 2 [a, b] = [[a], [b]] := rfl

set_option maxRecDepth 20000 in
theorem t47 (nt st : Int) (r : Rule) (arcs : List Arc) (fin : List Int) (f t k : Int) (h : sm nt st) (hr : okR2 r) (hf : okF f t) (ha : okArcs arcs) :
    ItOk Try.prog 47 (caps47 nt st r arcs fin f t k) (yieldsOf (inst nt st r arcs f t k)) := by
  have hΓ := ok6
  obtain ⟨tot, htot⟩ : ∃ tot, yieldsOf (inst nt st r arcs f t k) = tot := ⟨_, rfl⟩
  rw [htot]
  refine c47.okI (by simp [caps47]) (initI_sat ?_)
  simp [caps47, Rule.enc, caps46]
  refine SatD.regSeq hΓ follows [0, 1, 2, 3, 4, 5, 6, 12] ?_
  simp [d47r0]
  refine SatD.block ?_ -- 0
  refine SatD.regSeq hΓ follows [0, 1, 2, 3, 4, 5, 6, 12, 13] ?_
  simp [d47r1]
  obtain ⟨hr1, hr3, hr4⟩ := hr
  have hcall : ∀ (cost arg : Int) (tails : List (List T)), (∃ l, tails = intsT l) → pre46 [ti cost, ti arg, .sl tails, .box [ti nt, ti st], .box [ti r.kind, ti r.head, ti r.a, ti r.b, ti r.price, ti r.origin], .box [ti f], .box [ti t], .box [ti k]] := by
    rintro cost arg _ ⟨l, rfl⟩
    exact ⟨nt, st, r, f, t, k, cost, arg, l, rfl, h, hr1, hf⟩
  have hcall37 : ∀ a f' t', 0 ≤ a ∧ a ≤ 1000 → 0 ≤ f' ∧ f' ≤ 1000 → 0 ≤ t' ∧ t' ≤ 1000 → pre37 [.agg [ti nt, ti st], ti a, ti f', ti t'] := fun a f' t' h1 h2 h3 => ⟨h, h1.1, h1.2, h2.1, h2.2, h3.1, h3.2⟩
  obtain ⟨hf1, hf2, hf3⟩ := hf
  refine SatD.cond rfl (fun e1 => ?_) (fun e1 => ?_)
  · simp only [decide_eq_true_eq] at e1
    refine SatD.regSeq hΓ follows [0, 1, 2, 4, 17] ?_
    simp [d47r2]
    refine SatD.cond rfl (fun e2 => ?_) (fun e2 => ?_)
    · simp only [decide_eq_true_eq] at e2
      have hi : tot = [[.agg (edgeOf nt st r f t k r.price f []).enc]] := by rw [← htot]; simp [inst, e1, e2, yieldsOf]
      rw [hi]
      refine SatD.reg hΓ follows [] ?_
      simp [d47r3, Γ6, specP, fn46, yieldsOf, finI]
      exact hcall _ _ _ ⟨[], rfl⟩
    · refine SatD.skip ?_
      simp only [decide_eq_false_iff_not] at e2
      have hi : tot = [] := by rw [← htot]; simp [inst, e1, e2, yieldsOf]
      simp [hi, finI]
  simp only [decide_eq_false_iff_not] at e1
  refine SatD.regSeq hΓ follows [0, 1, 2, 3, 4, 5, 6, 12, 25] ?_
  simp [d47r4]
  refine SatD.cond rfl (fun e2 => ?_) (fun e2 => ?_)
  · simp only [decide_eq_true_eq] at e2
    have hi : tot = yieldsOf ((List.range arcs.length).flatMap (termAt nt st r arcs f t k)) := by rw [← htot]; simp only [inst, e2]; rfl
    refine SatD.regSeq hΓ follows [0, 1, 2, 3, 4, 28, 29, 30] ?_
    simp [d47r5]
    refine SatD.block ?_ -- 1
    refine SatD.loop (fun y : Nat => ⟨DM.look [(0, .yld), (1, .v (.box r.enc)), (2, .v (.box [ti f])), (3, .v (.box [ti t])), (4, .v (.box [.fn (.func 46) (caps46 nt st r f t k)])), (28, .v (.sl (arcsT arcs))), (29, .v (ti arcs.length)), (30, .v (ti y))], obs [], 2000, 0, yieldsOf (((List.range arcs.length).drop y).flatMap (termAt nt st r arcs f t k))⟩)
      (fun y => y ≤ arcs.length) (fun y => arcs.length - y) 0 ?_ (by simp) (fun y hy => ?_)
    · rw [hi]
      refine Le.keep ?_ ?_ ?_ ?_
      · simp
      · simp
      · simp
      · simp [Rule.enc, caps46]
    have hlen := ha.1
    refine SatD.regSeq hΓ follows [0, 1, 2, 3, 4, 28, 29, 30, 31] ?_
    simp [d47r6]
    refine SatD.seq ?_
    refine SatD.cond rfl (fun hc => ?_) (fun hc => ?_)
    · simp at hc
      obtain ⟨a, hga⟩ : ∃ a, arcs.getD y default = a := ⟨_, rfl⟩
      have hrow := rowAt_arcs hc
      rw [hga] at hrow
      have hac : 0 ≤ a.cost ∧ a.cost ≤ Inf := ha.2 a (by rw [← hga]; simp [hc])
      rw [range_drop hc]
      simp only [List.flatMap_cons, yieldsOf, List.map_append]
      refine SatD.skip ?_
      simp
      refine SatD.seq ?_
      refine SatD.block ?_ -- 2
      refine SatD.regSeq hΓ follows [0, 1, 2, 3, 4, 8, 9, 28, 29, 30] ?_
      simp [d47r7, hrow, hc, Arc.enc]
      refine SatD.le (Le.keep (o := []) (l := [(0, .yld), (1, .v (.box r.enc)), (2, .v (.box [ti f])), (3, .v (.box [ti t])), (4, .v (.box [.fn (.func 46) (caps46 nt st r f t k)])), (8, .v (ti y)), (9, .v (.box a.enc)), (28, .v (.sl (arcsT arcs))), (29, .v (ti arcs.length)), (30, .v (ti y))]) (nxt' := 3000) ?_ ?_ ?_ ?_) ?_
      · simp
      · simp
      · simp
      · simp [Rule.enc, caps46, Arc.enc]
      simp only [Inf] at hac
      have hwr : IntKind.i64.wrap (r.price + a.cost) = r.price + a.cost := wrap_id (by unfold okR at hr1; omega)
      refine SatD.to ⟨DM.look [(0, .yld), (1, .v (.box r.enc)), (2, .v (.box [ti f])), (3, .v (.box [ti t])), (4, .v (.box [.fn (.func 46) (caps46 nt st r f t k)])), (28, .v (.sl (arcsT arcs))), (29, .v (ti arcs.length)), (30, .v (ti y))], obs [], 4000, 0, yieldsOf (((List.range arcs.length).drop (y + 1)).flatMap (termAt nt st r arcs f t k))⟩ ?_ ?_
      · by_cases hm : a.f = f ∧ a.t = t ∧ a.term = r.a
        · obtain ⟨m1, m2, m3⟩ := hm
          have ht : termAt nt st r arcs f t k y = [edgeOf nt st r f t k (r.price + a.cost) y []] := by simp only [termAt, hga, m1, m2, m3, and_self, if_true]
          simp only [ht, List.map_cons, List.map_nil, List.cons_append, List.nil_append]
          refine SatD.regSeq hΓ follows [0, 1, 2, 3, 4, 28, 29, 30, 64] ?_
          simp only [d47r8, Arc.enc, Rule.enc, caps46]
          simp [Γ6, specP, fn46, m1, m2, m3, hwr]
          refine ⟨hcall _ _ _ ⟨[], rfl⟩, ?_⟩
          refine SatD.cond rfl (fun h => by cases h) (fun _ => ?_)
          refine SatD.skip ?_
          refine ⟨rfl, Le.keep ?_ ?_ ?_ ?_⟩ <;> simp
        · have ht : termAt nt st r arcs f t k y = [] := by simp only [termAt, hga, hm, if_false]
          simp only [ht, List.map_nil, List.nil_append]
          refine SatD.regToS hΓ follows [(0, .yld), (1, .v (.box r.enc)), (2, .v (.box [ti f])), (3, .v (.box [ti t])), (4, .v (.box [.fn (.func 46) (caps46 nt st r f t k)])), (28, .v (.sl (arcsT arcs))), (29, .v (ti arcs.length)), (30, .v (ti y)), (64, .v (.bool false))] ?_ ?_
          · simp only [d47r8, Arc.enc, Rule.enc, caps46]
            simp [Γ6, specP, fn46, hwr]
            intro m1 m2 m3
            exact absurd ⟨m1, m2, m3⟩ hm
          refine SatD.cond rfl (fun h => by cases h) (fun _ => ?_)
          refine SatD.skip ?_
          refine ⟨rfl, Le.keep ?_ ?_ ?_ ?_⟩ <;> simp [yieldsOf]
      · simp
        refine SatD.reg hΓ follows [0, 1, 2, 3, 4, 28, 29, 30] ?_
        simp [d47r9]
        refine ⟨y + 1, Le.keep ?_ ?_ ?_ ?_, ?_, ?_⟩ -- next round
        · simp
        · simp
        · simp
        · simp
          exact (wrap_id (by omega)).symm
        · omega
        · omega
    · simp at hc
      have hy2 : y = arcs.length := by omega
      subst hy2
      refine SatD.exit ?_
      simp [finI, yieldsOf]
  simp only [decide_eq_false_iff_not] at e2
  refine SatD.regSeq hΓ follows [0, 1, 2, 3, 4, 6, 12, 66] ?_
  simp [d47r10]
  refine SatD.cond rfl (fun e3 => ?_) (fun e3 => ?_)
  · simp only [decide_eq_true_eq] at e3
    have hi : tot = yieldsOf [edgeOf nt st r f t k r.price f [idxI nt st r.a f t]] := by rw [← htot]; simp only [inst, e3]; rfl
    rw [hi]
    refine SatD.reg hΓ follows [] ?_
    simp [d47r11, Γ6, specP, fn46, yieldsOf, finI, spec37, fn37]
    exact ⟨hcall37 _ _ _ (hr3 e3) (by omega) (by omega), hcall _ _ _ ⟨[_], rfl⟩⟩
  simp only [decide_eq_false_iff_not] at e3
  refine SatD.regSeq hΓ follows [0, 1, 2, 3, 4, 6, 82] ?_
  simp [d47r12]
  refine SatD.cond rfl (fun e4 => ?_) (fun e4 => ?_)
  · simp only [decide_eq_true_eq] at e4
    obtain ⟨N, hN⟩ : ∃ N, (t - f + 1).toNat = N := ⟨_, rfl⟩
    have hi : tot = yieldsOf ((List.range N).map (binAt nt st r f t k)) := by rw [← htot, ← hN]; simp only [inst, e4]; rfl
    refine SatD.regSeq hΓ follows [0, 1, 2, 3, 4, 6, 10] ?_
    simp [d47r13]
    obtain ⟨rest, hrest⟩ : ∃ rest : Nat → List (List T), ∀ y, rest y = yieldsOf (((List.range N).drop y).map (binAt nt st r f t k)) := ⟨_, fun _ => rfl⟩
    refine SatD.block ?_ -- 3
    refine SatD.loop (fun y : Nat => ⟨DM.look [(0, .yld), (1, .v (.box r.enc)), (2, .v (.box [ti f])), (3, .v (.box [ti t])), (4, .v (.box [.fn (.func 46) (caps46 nt st r f t k)])), (6, .v (.box [ti nt, ti st])), (10, .v (ti (f + y)))], obs [], 2000, 0, rest y⟩)
      (fun y => y ≤ N) (fun y => N - y) 0 ?_ (by simp) (fun y hy => ?_)
    · rw [hi, show yieldsOf ((List.range N).map (binAt nt st r f t k)) = rest 0 by rw [hrest]; rfl]
      refine Le.keep ?_ ?_ ?_ ?_
      · simp
      · simp
      · simp
      · simp [Rule.enc, caps46]
    refine SatD.seq ?_
    refine SatD.regSeq hΓ follows [0, 1, 2, 3, 4, 6, 10, 87] ?_
    simp [d47r14]
    refine SatD.cond rfl (fun hc => ?_) (fun hc => ?_)
    · simp at hc
      have hyN : y < N := by omega
      have hry : rest y = [.agg (binAt nt st r f t k y).enc] :: rest (y + 1) := by rw [hrest, hrest, range_drop hyN]; rfl
      rw [hry]
      obtain ⟨g1, g2, g3, g4⟩ := hr4 e4
      refine SatD.skip ?_
      simp
      refine SatD.seq ?_
      refine SatD.block ?_ -- 4
      refine SatD.regSeq hΓ follows [0, 1, 2, 3, 4, 6, 10, 110] ?_
      simp only [d47r15, Rule.enc, caps46]
      simp [Γ6, specP, fn46, spec37, fn37, binAt]
      refine ⟨hcall37 _ _ _ (by omega) (by omega) (by omega), hcall37 _ _ _ (by omega) (by omega) (by omega), hcall _ _ _ ⟨[_, _], rfl⟩, ?_⟩
      refine SatD.cond rfl (fun h => by cases h) (fun _ => ?_)
      refine SatD.skip ?_
      simp
      refine SatD.reg hΓ follows [0, 1, 2, 3, 4, 6, 10] ?_
      simp [d47r16]
      refine ⟨y + 1, Le.keep ?_ ?_ ?_ ?_, ?_, ?_⟩ -- next round
      · simp
      · simp
      · simp
      · simp [Rule.enc, caps46]
        rw [wrap_id (by omega)]; omega
      · omega
      · omega
    · simp at hc
      have hy2 : y = N := by omega
      subst hy2
      refine SatD.exit ?_
      simp [finI, yieldsOf, hrest]
  · refine SatD.skip ?_
    simp only [decide_eq_false_iff_not] at e4
    have hi : tot = [] := by rw [← htot]; simp [inst, e1, e2, e3, e4, yieldsOf]
    simp [hi, finI]
end Go.Proofs
