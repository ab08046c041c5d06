/- Which inputs are fair. Conditions: none. -/
import Derived.Test.YtlimlhidndflhaaDoorLc
import Derived.Test.YtlimlhidndflhaaDoorLb
import Derived.Test.YtlimlhidndflhaaDoorJb
import Derived.Test.YtlimlhidndflhaaDoorJ0c
namespace Go.Proofs
open Go.DM
set_option linter.unusedSimpArgs false
set_option linter.unusedVariables false

def readOk3 (c : Column) (t : Nat) : Prop := ¬ (((t : Int) = c.kind ∧ c.read.getD t default ≠ 0) ∨ ((t : Int) ≠ c.kind ∧ c.read.getD t default ≠ -1 ∧ (c.read.getD t default < 1 ∨ c.read.getD t default > 60000)))
def colV (c : Column) (terms : Int) : Prop := (¬ (c.kind < -1 ∨ c.kind ≥ terms ∨ (c.read.length : Int) ≠ terms ∨ c.delete < 1 ∨ (c.delete > 60000 ∧ c.delete ≠ 1099511627776))) ∧ ∀ t, t < terms.toNat → readOk3 c t
instance (c : Column) (t : Nat) : Decidable (readOk3 c t) := by unfold readOk3; infer_instance
instance (c : Column) (terms : Int) : Decidable (colV c terms) := by unfold colV; infer_instance
def colsV (l : List Column) (terms : Int) : Prop := ∀ i, i < l.length → colV (l.getD i default) terms
instance (l : List Column) (terms : Int) : Decidable (colsV l terms) := by unfold colsV; infer_instance
def insV (l : List Int) (t : Nat) : Prop := ¬ (l.getD t default < 1 ∨ l.getD t default > 60000)
instance (l : List Int) (t : Nat) : Decidable (insV l t) := by unfold insV; infer_instance
def inV (x : Input) (terms : Int) : Prop := (¬ (terms < 0 ∨ (x.columns.length : Int) > 60 ∨ (x.insert.length : Int) ≠ terms ∨ x.swap < 0 ∨ x.swap > 60000 ∨ ¬ colsV x.columns terms)) ∧ ∀ t, t < terms.toNat → insV x.insert t
instance (x : Input) (terms : Int) : Decidable (inV x terms) := by unfold inV; infer_instance
def fairP (x : Input) (tokens : Int) : Prop := ((x.columns.length : Int) ≤ tokens ∧ (x.insert.length : Int) ≤ 5) ∧ inV x x.insert.length
instance (x : Input) (tokens : Int) : Decidable (fairP x tokens) := by unfold fairP; infer_instance

set_option maxRecDepth 20000 in
set_option maxHeartbeats 8000000 in
theorem t58 (c : Column) (terms : Int) (h : terms ≤ 1000000000000) : CallsOk Tryd.prog 43 [.agg c.enc, ti terms] (.bool (decide (colV c terms))) := by
  have hΓ := okE
  obtain ⟨v, hv⟩ : ∃ v, decide (colV c terms) = v := ⟨_, rfl⟩
  rw [hv]
  have bad : ¬ colV c terms → v = false := fun h => by rw [← hv]; simp [h]
  have hval : colV c terms ↔ (¬ (c.kind < -1 ∨ c.kind ≥ terms ∨ (c.read.length : Int) ≠ terms ∨ c.delete < 1 ∨ (c.delete > 60000 ∧ c.delete ≠ 1099511627776))) ∧ ∀ t, t < terms.toNat → readOk3 c t := Iff.rfl
  refine c58.ok (by simp) (initSt_sat ?_)
  simp [Column.enc]
  refine SatD.regSeq hΓ follows [1, 2] ?_
  simp [d58r0]
  refine SatD.le (Le.keep (o := []) (l := [(1, .v (ti terms)), (2, .v (.box [ti c.kind, .sl (intsT c.read), ti c.delete]))]) (nxt' := 1200) ?_ ?_ ?_ ?_) ?_
  · simp
  · simp
  · simp
  · simp
  refine SatD.seq ?_
  obtain ⟨b, hb⟩ : ∃ b : Bool, decide (c.kind < -1 ∨ c.kind ≥ terms ∨ (c.read.length : Int) ≠ terms ∨ c.delete < 1 ∨ (c.delete > 60000 ∧ c.delete ≠ 1099511627776)) = b := ⟨_, rfl⟩
  refine SatD.regToS hΓ follows [(1, .v (ti terms)), (2, .v (.box [ti c.kind, .sl (intsT c.read), ti c.delete])), (37, .v (.bool b))] ?_ ?_
  · by_cases q1 : c.kind < -1
    · have hb' : b = true := by rw [← hb]; simp [q1]
      simp [d58r1, q1, hb']
    · by_cases q2 : terms ≤ c.kind
      · have hb' : b = true := by rw [← hb]; simp [q2]
        simp [d58r1, q1, q2, hb']
      · by_cases q3 : (c.read.length : Int) = terms
        · by_cases q4 : c.delete < 1
          · have hb' : b = true := by rw [← hb]; simp [q4]
            simp [d58r1, q1, q2, q3, q4, hb']
          · by_cases q5 : 60000 < c.delete
            · by_cases q6 : c.delete = 1099511627776
              · have hb' : b = false := by rw [← hb]; simp only [decide_eq_false_iff_not]; omega
                simp [d58r1, q1, q2, q3, q4, q5, q6, hb']
              · have hb' : b = true := by rw [← hb]; simp [q5, q6]
                simp [d58r1, q1, q2, q3, q4, q5, q6, hb']
            · have hb' : b = false := by rw [← hb]; simp only [decide_eq_false_iff_not]; omega
              simp [d58r1, q1, q2, q3, q4, q5, hb']
        · have hb' : b = true := by rw [← hb]; simp [q3]
          simp [d58r1, q1, q2, q3, hb']
  refine SatD.cond rfl (fun h => ?_) (fun h => ?_)
  · rw [h] at hb
    simp only [decide_eq_true_eq] at hb
    refine SatD.regSeq hΓ follows [4] ?_
    simp [d58r2]
    refine SatD.ret ?_
    rw [bad fun e => (hval.1 e).1 hb]
    simp [d58res]
  rw [h] at hb
  simp only [decide_eq_false_iff_not] at hb
  obtain ⟨n, hn⟩ : ∃ n, c.read.length = n := ⟨_, rfl⟩
  have hnt : terms = (n : Int) := by omega
  subst hnt
  refine SatD.skip ?_
  simp
  refine SatD.seq ?_
  refine SatD.regSeq hΓ follows [1, 2, 5] ?_
  simp [d58r3]
  refine SatD.block ?_
  refine SatD.loop (fun y : Nat => ⟨DM.look [(1, .v (ti n)), (2, .v (.box [ti c.kind, .sl (intsT c.read), ti c.delete])), (5, .v (ti y))], obs [], 2000, 1000, []⟩)
    (fun y => y ≤ n ∧ ∀ t, t < y → readOk3 c t) (fun y => n - y) 0 (Le.keep (o := []) ?_ ?_ ?_ ?_) (by simp) (fun y hy => ?_)
  · simp
  · simp
  · simp
  · simp
  obtain ⟨hy1, hy2⟩ := hy
  refine SatD.seq ?_
  refine SatD.regSeq hΓ follows [1, 2, 5, 40] ?_
  simp [d58r4]
  refine SatD.cond rfl (fun hcc => ?_) (fun hcc => ?_)
  · simp at hcc
    have hyr : y < c.read.length := by omega
    have r1 := rowAt_ints hyr
    obtain ⟨u, hu⟩ : ∃ u, c.read.getD y default = u := ⟨_, rfl⟩
    rw [hu] at r1
    have hro : readOk3 c y ↔ ¬ (((y : Int) = c.kind ∧ u ≠ 0) ∨ ((y : Int) ≠ c.kind ∧ u ≠ -1 ∧ (u < 1 ∨ u > 60000))) := by unfold readOk3; rw [hu]
    obtain ⟨kd, hkd⟩ : ∃ k, c.kind = k := ⟨_, rfl⟩
    rw [hkd] at hro ⊢
    refine SatD.skip ?_
    simp
    refine SatD.seq ?_
    refine SatD.block ?_
    refine SatD.regSeq hΓ follows [1, 2, 5, 6] ?_
    simp [d58r5, r1, hyr]
    obtain ⟨b2, hb2⟩ : ∃ b : Bool, decide (((y : Int) = kd ∧ u ≠ 0) ∨ ((y : Int) ≠ kd ∧ u ≠ -1 ∧ (u < 1 ∨ u > 60000))) = b := ⟨_, rfl⟩
    refine SatD.regToS hΓ follows [(1, .v (ti n)), (2, .v (.box [ti kd, .sl (intsT c.read), ti c.delete])), (5, .v (ti y)), (73, .v (.bool b2))] ?_ ?_
    · by_cases q1 : (y : Int) = kd
      · by_cases q2 : u = 0
        · have hb' : b2 = false := by rw [← hb2]; simp [q1, q2]
          simp [d58r6, q1, q2, hb']
        · have hb' : b2 = true := by rw [← hb2]; simp [q1, q2]
          simp [d58r6, q1, q2, hb']
      · by_cases q2 : u = -1
        · have hb' : b2 = false := by rw [← hb2]; simp [q1, q2]
          simp [d58r6, q1, q2, hb']
        · by_cases q3 : u < 1
          · have hb' : b2 = true := by rw [← hb2]; simp [q1, q2, q3]
            simp [d58r6, q1, q2, q3, hb']
          · by_cases q4 : 60000 < u
            · have hb' : b2 = true := by rw [← hb2]; simp [q1, q2, q4]
              simp [d58r6, q1, q2, q3, q4, hb']
            · have hb' : b2 = false := by rw [← hb2]; simp only [decide_eq_false_iff_not]; omega
              simp [d58r6, q1, q2, q3, q4, hb']
    refine SatD.cond rfl (fun h => ?_) (fun h => ?_)
    · rw [h] at hb2
      simp only [decide_eq_true_eq] at hb2
      refine SatD.regSeq hΓ follows [4] ?_
      simp [d58r7]
      refine SatD.ret ?_
      rw [bad fun e => hro.1 ((hval.1 e).2 y (by simpa using hcc)) hb2]
      simp [d58res]
    · rw [h] at hb2
      simp only [decide_eq_false_iff_not] at hb2
      refine SatD.skip ?_
      simp
      refine SatD.reg hΓ follows [1, 2, 5] ?_
      simp [d58r8]
      rw [wrap_id (by omega)]
      refine ⟨y + 1, Le.keep (o := []) ?_ ?_ ?_ ?_, ⟨by omega, fun i hi => ?_⟩, by omega⟩
      · simp
      · simp
      · simp
      · simp
      · by_cases e : i = y
        · subst e; exact hro.2 hb2
        · exact hy2 i (by omega)
  simp at hcc
  refine SatD.exit ?_
  simp
  refine SatD.regSeq hΓ follows [4] ?_
  simp [d58r9]
  refine SatD.ret ?_
  have : v = true := by
    rw [← hv, decide_eq_true_eq]
    exact hval.2 ⟨by omega, fun i hi => hy2 i (by simp at hi; omega)⟩
  rw [this]
  simp [d58res]

abbrev spec58 : DM.Spec := specP (fun ts => ∃ (c : Column) (t : Int), ts = [.agg c.enc, ti t] ∧ t ≤ 1000000000000) (fun | [.agg c, .int _ t] => .bool (decide (colV (decCol c) t)) | _ => .bool false) true
theorem ok58 : EnvOk Tryd.prog (envOf [(43, spec58)]) := by
  refine EnvOk.cons EnvOk.nil ?_
  rintro ts ⟨c, t, rfl, h⟩
  exact ⟨by simpa using t58 c t h, fun _ => rfl⟩
theorem t45 (l : List Column) (terms : Int) (h1 : l.length ≤ 1000000000000) (h2 : terms ≤ 1000000000000) : CallsOk Tryd.prog 32 [.sl (colsT l), ti terms] (.bool (decide (colsV l terms))) := by
  have hΓ := ok58
  obtain ⟨v, hv⟩ : ∃ v, decide (colsV l terms) = v := ⟨_, rfl⟩
  rw [hv]
  have bad : ¬ colsV l terms → v = false := fun h => by rw [← hv]; simp [h]
  refine c45.ok (by simp) (initSt_sat ?_)
  simp
  refine SatD.regSeq hΓ follows [0, 1] ?_
  simp [d45r0]
  refine SatD.seq ?_
  refine SatD.regSeq hΓ follows [0, 1, 5] ?_
  simp [d45r1]
  refine SatD.block ?_
  refine SatD.loop (fun j : Nat => ⟨DM.look [(0, .v (.sl (colsT l))), (1, .v (ti terms)), (5, .v (ti j))], obs [], 2000, 1000, []⟩)
    (fun j => j ≤ l.length ∧ ∀ i, i < j → colV (l.getD i default) terms) (fun j => l.length - j) 0 (Le.keep (o := []) ?_ ?_ ?_ ?_) (by simp) (fun j hj => ?_)
  · simp
  · simp
  · simp
  · simp
  obtain ⟨hy1, hy2⟩ := hj
  refine SatD.seq ?_
  refine SatD.regSeq hΓ follows [0, 1, 5, 9] ?_
  simp [d45r2]
  refine SatD.cond rfl (fun hcc => ?_) (fun hcc => ?_)
  · simp at hcc
    have r1 := rowAt_cols hcc
    refine SatD.skip ?_
    simp
    refine SatD.seq ?_
    refine SatD.block ?_
    obtain ⟨u, hu⟩ : ∃ u, l.getD j default = u := ⟨_, rfl⟩
    rw [hu] at r1
    refine SatD.regSeq hΓ follows [0, 1, 5, 18] ?_
    obtain ⟨a, b, c⟩ := u
    simp [d45r3, hcc, r1, Column.enc]
    rw [show decCol [ti a, T.sl (intsT b), ti c] = ⟨a, b, c⟩ from decCol_enc ⟨a, b, c⟩]
    refine ⟨⟨⟨a, b, c⟩, terms, ⟨⟨rfl, rfl, rfl⟩, rfl⟩, h2⟩, ?_⟩
    refine SatD.cond rfl (fun h => ?_) (fun h => ?_)
    · simp at h
      refine SatD.regSeq hΓ follows [4] ?_
      simp [d45r4]
      refine SatD.ret ?_
      rw [bad fun e => h (by have := e j hcc; rw [hu] at this; exact this)]
      simp [d45res]
    · simp at h
      refine SatD.skip ?_
      simp
      refine SatD.reg hΓ follows [0, 1, 5] ?_
      simp [d45r5]
      rw [wrap_id (by omega)]
      refine ⟨j + 1, Le.keep (o := []) ?_ ?_ ?_ ?_, ⟨by omega, fun i hi => ?_⟩, by omega⟩
      · simp
      · simp
      · simp
      · simp
      · by_cases e : i = j
        · subst e; show colV (l.getD i default) terms; rw [hu]; exact h
        · exact hy2 i (by omega)
  simp at hcc
  refine SatD.exit ?_
  simp
  refine SatD.regSeq hΓ follows [4] ?_
  simp [d45r6]
  refine SatD.ret ?_
  have : v = true := by
    rw [← hv, decide_eq_true_eq]
    exact fun i hi => hy2 i (by omega)
  rw [this]
  simp [d45res]

abbrev spec45 : DM.Spec := specP (fun ts => ∃ (l : List Column) (t : Int), ts = [.sl (colsT l), ti t] ∧ l.length ≤ 1000000000000 ∧ t ≤ 1000000000000) (fun | [.sl c, .int _ t] => .bool (decide (colsV (decCols c) t)) | _ => .bool false) true
theorem ok45 : EnvOk Tryd.prog (envOf [(32, spec45)]) := by
  refine EnvOk.cons EnvOk.nil ?_
  rintro ts ⟨c, t, rfl, h1, h2⟩
  exact ⟨by simpa using t45 c t h1 h2, fun _ => rfl⟩
set_option maxRecDepth 20000 in
set_option maxHeartbeats 8000000 in
theorem t28 (x : Input) (terms : Int) (ht : terms ≤ 1000000000000) : CallsOk Tryd.prog 20 [x.enc, ti terms] (.bool (decide (inV x terms))) := by
  have hΓ := ok45
  obtain ⟨v, hv⟩ : ∃ v, decide (inV x terms) = v := ⟨_, rfl⟩
  rw [hv]
  have bad : ¬ inV x terms → v = false := fun h => by rw [← hv]; simp [h]
  have hval : inV x terms ↔ (¬ (terms < 0 ∨ (x.columns.length : Int) > 60 ∨ (x.insert.length : Int) ≠ terms ∨ x.swap < 0 ∨ x.swap > 60000 ∨ ¬ colsV x.columns terms)) ∧ ∀ t, t < terms.toNat → insV x.insert t := Iff.rfl
  refine c28.ok (by simp) (initSt_sat ?_)
  simp [Input.enc]
  refine SatD.regSeq hΓ follows [1, 2] ?_
  simp [d28r0]
  refine SatD.le (Le.keep (o := []) (l := [(1, .v (ti terms)), (2, .v (.box [.sl (colsT x.columns), .sl (intsT x.insert), ti x.swap]))]) (nxt' := 1200) ?_ ?_ ?_ ?_) ?_
  · simp
  · simp
  · simp
  · simp
  refine SatD.seq ?_
  obtain ⟨b, hb⟩ : ∃ b : Bool, decide (terms < 0 ∨ (x.columns.length : Int) > 60 ∨ (x.insert.length : Int) ≠ terms ∨ x.swap < 0 ∨ x.swap > 60000 ∨ ¬ colsV x.columns terms) = b := ⟨_, rfl⟩
  refine SatD.regToS hΓ follows [(1, .v (ti terms)), (2, .v (.box [.sl (colsT x.columns), .sl (intsT x.insert), ti x.swap])), (37, .v (.bool b))] ?_ ?_
  · by_cases q1 : terms < 0
    · have hb' : b = true := by rw [← hb]; simp [q1]
      simp [d28r1, q1, hb']
    · by_cases q2 : 60 < (x.columns.length : Int)
      · have hb' : b = true := by rw [← hb]; simp [q2]
        simp [d28r1, q1, q2, hb']
      · by_cases q3 : (x.insert.length : Int) = terms
        · by_cases q4 : x.swap < 0
          · have hb' : b = true := by rw [← hb]; simp [q4]
            simp [d28r1, q1, q2, q3, q4, hb']
          · by_cases q5 : 60000 < x.swap
            · have hb' : b = true := by rw [← hb]; simp [q5]
              simp [d28r1, q1, q2, q3, q4, q5, hb']
            · by_cases q6 : colsV x.columns terms
              · have hb' : b = false := by rw [← hb]; simp only [decide_eq_false_iff_not]; rintro (h | h | h | h | h | h) <;> first | omega | exact h q6
                simp [d28r1, q1, q2, q3, q4, q5, q6, hb']
                exact ⟨x.columns, terms, ⟨rfl, rfl⟩, by omega, ht⟩
              · have hb' : b = true := by rw [← hb]; simp [q6]
                simp [d28r1, q1, q2, q3, q4, q5, q6, hb']
                exact ⟨x.columns, terms, ⟨rfl, rfl⟩, by omega, ht⟩
        · have hb' : b = true := by rw [← hb]; simp [q3]
          simp [d28r1, q1, q2, q3, hb']
  refine SatD.cond rfl (fun h => ?_) (fun h => ?_)
  · rw [h] at hb
    simp only [decide_eq_true_eq] at hb
    refine SatD.regSeq hΓ follows [4] ?_
    simp [d28r2]
    refine SatD.ret ?_
    rw [bad fun e => (hval.1 e).1 hb]
    simp [d28res]
  rw [h] at hb
  simp only [decide_eq_false_iff_not] at hb
  have hb3 : (x.insert.length : Int) = terms := by
    by_cases e : (x.insert.length : Int) = terms
    · exact e
    · exact absurd (.inr (.inr (.inl e))) hb
  obtain ⟨n, hn⟩ : ∃ n, x.insert.length = n := ⟨_, rfl⟩
  rw [hn] at hb3
  subst hb3
  refine SatD.skip ?_
  simp
  refine SatD.seq ?_
  refine SatD.regSeq hΓ follows [1, 2, 5] ?_
  simp [d28r3]
  refine SatD.block ?_
  refine SatD.loop (fun y : Nat => ⟨DM.look [(1, .v (ti n)), (2, .v (.box [.sl (colsT x.columns), .sl (intsT x.insert), ti x.swap])), (5, .v (ti y))], obs [], 2000, 1000, []⟩)
    (fun y => y ≤ n ∧ ∀ t, t < y → insV x.insert t) (fun y => n - y) 0 (Le.keep (o := []) ?_ ?_ ?_ ?_) (by simp) (fun y hy => ?_)
  · simp
  · simp
  · simp
  · simp
  obtain ⟨hy1, hy2⟩ := hy
  refine SatD.seq ?_
  refine SatD.regSeq hΓ follows [1, 2, 5, 40] ?_
  simp [d28r4]
  refine SatD.cond rfl (fun hcc => ?_) (fun hcc => ?_)
  · simp at hcc
    have hyr : y < x.insert.length := by omega
    have r1 := rowAt_ints hyr
    obtain ⟨u, hu⟩ : ∃ u, x.insert.getD y default = u := ⟨_, rfl⟩
    rw [hu] at r1
    have hro : insV x.insert y ↔ ¬ (u < 1 ∨ u > 60000) := by unfold insV; rw [hu]
    refine SatD.skip ?_
    simp
    refine SatD.seq ?_
    refine SatD.block ?_
    refine SatD.regToS hΓ follows [(1, .v (ti n)), (2, .v (.box [.sl (colsT x.columns), .sl (intsT x.insert), ti x.swap])), (5, .v (ti y)), (56, .v (.bool (decide (u < 1 ∨ 60000 < u))))] ?_ ?_
    · by_cases q1 : u < 1
      · simp [d28r5, r1, hyr, q1]
      · by_cases q2 : 60000 < u <;> simp [d28r5, r1, hyr, q1, q2]
    refine SatD.cond rfl (fun h => ?_) (fun h => ?_)
    · simp only [decide_eq_true_eq] at h
      refine SatD.regSeq hΓ follows [4] ?_
      simp [d28r6]
      refine SatD.ret ?_
      rw [bad fun e => hro.1 ((hval.1 e).2 y (by simpa using hcc)) h]
      simp [d28res]
    · simp only [decide_eq_false_iff_not] at h
      refine SatD.skip ?_
      simp
      refine SatD.reg hΓ follows [1, 2, 5] ?_
      simp [d28r7]
      rw [wrap_id (by omega)]
      refine ⟨y + 1, Le.keep (o := []) ?_ ?_ ?_ ?_, ⟨by omega, fun i hi => ?_⟩, by omega⟩
      · simp
      · simp
      · simp
      · simp
      · by_cases e : i = y
        · subst e; exact hro.2 h
        · exact hy2 i (by omega)
  simp at hcc
  refine SatD.exit ?_
  simp
  refine SatD.regSeq hΓ follows [4] ?_
  simp [d28r8]
  refine SatD.ret ?_
  have : v = true := by
    rw [← hv, decide_eq_true_eq]
    exact hval.2 ⟨hb, fun i hi => hy2 i (by simp at hi; omega)⟩
  rw [this]
  simp [d28res]

theorem t27 (x : Input) (a b : Int) : CallsOk Tryd.prog 19 [x.enc, ti a, ti b] (.bool (decide ((x.columns.length : Int) ≤ a ∧ (x.insert.length : Int) ≤ b))) := by
  have hΓ := okE
  obtain ⟨v, hv⟩ : ∃ v, decide ((x.columns.length : Int) ≤ a ∧ (x.insert.length : Int) ≤ b) = v := ⟨_, rfl⟩
  rw [hv]
  refine c27.ok (by simp) (initSt_sat ?_)
  simp [Input.enc]
  refine SatD.regSeq hΓ follows [1, 2, 3] ?_
  simp [d27r0]
  refine SatD.le (Le.keep (o := []) (l := [(1, .v (ti a)), (2, .v (ti b)), (3, .v (.box [.sl (colsT x.columns), .sl (intsT x.insert), ti x.swap]))]) (nxt' := 1200) ?_ ?_ ?_ ?_) ?_
  · simp
  · simp
  · simp
  · simp
  refine SatD.regToS hΓ follows [(6, .v (.bool v))] ?_ ?_
  · by_cases q1 : (x.columns.length : Int) ≤ a
    · by_cases q2 : (x.insert.length : Int) ≤ b
      · have hv' : v = true := by rw [← hv]; simp [q1, q2]
        simp [d27r1, q1, q2, hv']
      · have hv' : v = false := by rw [← hv]; simp [q2]
        simp [d27r1, q1, q2, hv']
    · have hv' : v = false := by rw [← hv]; simp [q1]
      simp [d27r1, q1, hv']
  refine SatD.ret ?_
  simp [d27res]

abbrev spec27 : DM.Spec := specP (fun ts => ∃ (x : Input) (a b : Int), ts = [x.enc, ti a, ti b]) (fun | [x, .int _ a, .int _ b] => .bool (decide (((decX x).columns.length : Int) ≤ a ∧ ((decX x).insert.length : Int) ≤ b)) | _ => .bool false) true
abbrev spec28 : DM.Spec := specP (fun ts => ∃ (x : Input) (t : Int), ts = [x.enc, ti t] ∧ t ≤ 1000000000000) (fun | [x, .int _ t] => .bool (decide (inV (decX x) t)) | _ => .bool false) true
theorem ok27 : EnvOk Tryd.prog (envOf [(19, spec27), (20, spec28)]) := by
  refine EnvOk.cons (EnvOk.cons EnvOk.nil ?_) ?_
  · rintro ts ⟨x, t, rfl, h1⟩
    exact ⟨by simpa using t28 x t h1, fun _ => rfl⟩
  · rintro ts ⟨x, a, b, rfl⟩
    exact ⟨by simpa using t27 x a b, fun _ => rfl⟩
theorem t11 (x : Input) (tokens : Int) : CallsOk Tryd.prog 5 [x.enc, ti tokens] (.bool (decide (fairP x tokens))) := by
  have hΓ := ok27
  obtain ⟨v, hv⟩ : ∃ v, decide (fairP x tokens) = v := ⟨_, rfl⟩
  rw [hv]
  refine c11.ok (by simp) (initSt_sat ?_)
  obtain ⟨cols, ins, sw⟩ := x
  simp [Input.enc]
  refine SatD.regSeq hΓ follows [1, 2] ?_
  simp [d11r0]
  refine SatD.le (Le.keep (o := []) (l := [(1, .v (ti tokens)), (2, .v (.box [.sl (colsT cols), .sl (intsT ins), ti sw]))]) (nxt' := 1200) ?_ ?_ ?_ ?_) ?_
  · simp
  · simp
  · simp
  · simp
  have hex : ∃ x : Input, (T.agg [.sl (colsT cols), .sl (intsT ins), ti sw]) = x.enc := ⟨⟨cols, ins, sw⟩, rfl⟩
  refine SatD.regToS hΓ follows [(4, .v (.bool v))] ?_ ?_
  · by_cases q1 : (cols.length : Int) ≤ tokens ∧ (ins.length : Int) ≤ 5
    · by_cases q2 : inV ⟨cols, ins, sw⟩ ins.length
      · have hv' : v = true := by rw [← hv, decide_eq_true_eq]; exact ⟨q1, q2⟩
        simp [d11r1, q1, q2, hv']
        exact ⟨hex, ⟨cols, ins, sw⟩, ins.length, ⟨rfl, rfl⟩, by omega⟩
      · have hv' : v = false := by rw [← hv, decide_eq_false_iff_not]; exact fun h => q2 h.2
        simp [d11r1, q1, q2, hv']
        exact ⟨hex, ⟨cols, ins, sw⟩, ins.length, ⟨rfl, rfl⟩, by omega⟩
    · have hv' : v = false := by rw [← hv, decide_eq_false_iff_not]; exact fun h => q1 h.1
      simp [d11r1, q1, hv']
      exact hex
  refine SatD.ret ?_
  simp [d11res]
end Go.Proofs
/- The reference's builder: parts. Conditions: none. -/
namespace Go.Proofs
open Go.DM
set_option linter.unusedSimpArgs false
set_option linter.unusedVariables false

theorem satA_del {c d : Int} (hc : 0 ≤ c ∧ c ≤ 1099511627776) (hd : 0 ≤ d) : satA c d = min (c + d) 1099511627776 := by
  unfold satA; split <;> omega
theorem t34 (x : Input) (i m : Nat) (him : i ≤ m) (hm : m ≤ x.columns.length) (hd : delOk x.columns) : CallsOk Tryd.prog 26 [x.enc, ti i, ti m] (ti (delC x i m)) := by
  have hΓ := ok36
  obtain ⟨part, hpart⟩ : ∃ p, (x.columns.take m).drop i = p := ⟨_, rfl⟩
  have hpl : part.length = m - i := by rw [← hpart]; simp; omega
  have hpd : ∀ c ∈ part, 0 ≤ c.delete ∧ c.delete ≤ 1099511627776 := fun c hc => hd.2 c (by rw [← hpart] at hc; exact List.mem_of_mem_take (List.mem_of_mem_drop hc))
  have hpg : ∀ k, i + k < m → part.getD k default = x.columns.getD (i + k) default := by
    intro k hk
    rw [← hpart]
    have : i + k < x.columns.length := by omega
    simp [List.getD, List.getElem?_drop, List.getElem?_take, hk]
  have hlen := hd.1
  unfold delC
  rw [hpart]
  refine c34.ok (by simp) (initSt_sat ?_)
  simp [Input.enc]
  refine SatD.regSeq hΓ follows [1, 2, 3] ?_
  simp [d34r0]
  refine SatD.le (Le.keep (o := []) (l := [(1, .v (ti i)), (2, .v (ti m)), (3, .v (.box [.sl (colsT x.columns), .sl (intsT x.insert), ti x.swap]))]) (nxt' := 1200) ?_ ?_ ?_ ?_) ?_
  · simp
  · simp
  · simp
  · simp
  refine SatD.regSeq hΓ follows [1, 2, 3, 7] ?_
  simp [d34r1]
  refine SatD.seq ?_
  refine SatD.regSeq hΓ follows [2, 3, 7, 8] ?_
  simp [d34r2]
  refine SatD.block ?_
  refine SatD.loop (fun y : Nat => ⟨DM.look [(2, .v (ti m)), (3, .v (.box [.sl (colsT x.columns), .sl (intsT x.insert), ti x.swap])), (7, .v (ti (delCost (part.take y) 0))), (8, .v (ti ((i + y : Nat) : Int)))], obs [], 2000, 1000, []⟩)
    (fun y => y ≤ part.length) (fun y => part.length - y) 0 (Le.keep (o := []) ?_ ?_ ?_ ?_) (by simp) (fun y hy => ?_)
  · simp
  · simp
  · simp
  · simp [delCost]
  obtain ⟨k, hk⟩ : ∃ k, i + y = k := ⟨_, rfl⟩
  rw [hk]
  have hbd := delCost_bound (l := part.take y) (fun c hc => (hpd c (List.mem_of_mem_take hc)).1) 0 (by omega)
  refine SatD.seq ?_
  refine SatD.regSeq hΓ follows [2, 3, 7, 8, 12] ?_
  simp [d34r3]
  refine SatD.cond rfl (fun hcc => ?_) (fun hcc => ?_)
  · simp at hcc
    have hyp : y < part.length := by omega
    have hkl : k < x.columns.length := by omega
    have hr := rowAt_cols hkl
    have hg := hpg y (by omega)
    rw [hk] at hg
    obtain ⟨c, hc⟩ : ∃ c, x.columns.getD k default = c := ⟨_, rfl⟩
    rw [hc] at hr hg
    have hpy : part[y] = c := by simpa [List.getD, hyp] using hg
    have hcd := hpd c (by rw [← hpy]; exact List.getElem_mem hyp)
    have htk : part.take (y + 1) = part.take y ++ [c] := by rw [List.take_add_one, List.getElem?_eq_getElem hyp, hpy]; rfl
    obtain ⟨u, hu⟩ : ∃ u, delCost (part.take y) 0 = u := ⟨_, rfl⟩
    rw [hu] at hbd ⊢
    refine SatD.skip ?_
    simp
    refine SatD.seq ?_
    refine SatD.block ?_
    refine SatD.reg hΓ follows [2, 3, 7, 8] ?_
    simp [d34r4, hkl, hr, Column.enc]
    refine ⟨⟨u, c.delete, ⟨rfl, rfl⟩, by omega, by omega⟩, ?_⟩
    refine SatD.reg hΓ follows [2, 3, 7, 8] ?_
    simp [d34r5]
    rw [wrap_id (by omega)]
    refine ⟨y + 1, Le.keep (o := []) ?_ ?_ ?_ ?_, by omega, by omega⟩
    · simp
    · simp
    · simp
    · simp [htk, delCost_snoc, hu, satA_del hbd hcd.1]
      omega
  · simp at hcc
    have hyl : y = part.length := by omega
    subst hyl
    refine SatD.exit ?_
    simp
    refine SatD.regSeq hΓ follows [6] ?_
    simp [d34r6]
    refine SatD.ret ?_
    simp [d34res]

set_option maxRecDepth 20000 in
theorem t38 (x : Input) (m : Nat) (hm : m ≤ 1000000) (hl : x.columns.length ≤ 1000000) : CallsOk Tryd.prog 30 [x.enc, ti m] (.bool (swapOk x m)) := by
  have hΓ := okE
  obtain ⟨v, hv⟩ : ∃ v, swapOk x m = v := ⟨_, rfl⟩
  rw [hv]
  refine c38.ok (by simp) (initSt_sat ?_)
  simp [Input.enc]
  refine SatD.regSeq hΓ follows [1, 2] ?_
  simp [d38r0]
  refine SatD.le (Le.keep (o := []) (l := [(1, .v (ti m)), (2, .v (.box [.sl (colsT x.columns), .sl (intsT x.insert), ti x.swap]))]) (nxt' := 1200) ?_ ?_ ?_ ?_) ?_
  · simp
  · simp
  · simp
  · simp
  have hw : IntKind.i64.wrap ((m : Int) + 1) = m + 1 := wrap_id (by omega)
  refine SatD.regToS hΓ follows [(4, .v (.bool v))] ?_ ?_
  · by_cases h1 : m + 1 < x.columns.length
    · have hr1 := rowAt_cols (l := x.columns) (y := m) (by omega)
      have hr2 : DM.rowAt (colsT x.columns) ((m : Int) + 1) = (x.columns.getD (m + 1) default).enc := rowAt_cols (l := x.columns) h1
      obtain ⟨c1, hc1⟩ : ∃ c, x.columns.getD m default = c := ⟨_, rfl⟩
      obtain ⟨c2, hc2⟩ : ∃ c, x.columns.getD (m + 1) default = c := ⟨_, rfl⟩
      rw [hc1] at hr1
      rw [hc2] at hr2
      have hd1 : ((m : Int) + 1 < x.columns.length) = True := by simp; omega
      have hd3 : (0 ≤ (m : Int) + 1) = True := by simp; omega
      have hd4 : m < x.columns.length := by omega
      have hsw : v = (decide (0 < x.swap) && (decide (0 ≤ c1.kind) && decide (0 ≤ c2.kind))) := by
        rw [← hv]
        unfold swapOk
        rw [hc1, hc2]
        simp [h1]
      by_cases s1 : 0 < x.swap <;> by_cases s2 : 0 ≤ c1.kind <;> by_cases s3 : 0 ≤ c2.kind <;> simp [d38r1, hw, hr1, hr2, hd1, hd3, hd4, Column.enc, s1, s2, s3, hsw]
    · have hd1 : ((m : Int) + 1 < x.columns.length) = False := by simp; omega
      have hsw : v = false := by rw [← hv]; simp [swapOk]; intros; omega
      simp [d38r1, hw, hd1, hsw]
  refine SatD.ret ?_
  simp [d38res]

theorem t37 (n : Nat) (a b : Int) (hn : n ≤ 1000000) : CallsOk Tryd.prog 29 [ti n, .agg [ti a, ti b]] (.sl (opsT (dels n ++ [(a, b)]))) := by
  have hΓ := okE
  refine c37.ok (by simp) (initSt_sat ?_)
  simp
  refine SatD.regSeq hΓ follows [0, 3] ?_
  simp [d37r0]
  refine SatD.regSeq hΓ follows [0, 3, 5] ?_
  simp [d37r1]
  refine SatD.seq ?_
  refine SatD.le (Le.keep (o := []) (l := [(0, .v (ti n)), (3, .v (.box [ti a, ti b])), (5, .nil0)]) (nxt' := 1200) ?_ ?_ ?_ ?_) ?_
  · simp
  · simp
  · simp
  · simp
  refine SatD.le (Le.nilSlot (k := 5) 53 (sz := 2) (by omega) (by simp)) ?_
  rw [obs_setO]
  refine SatD.regSeq hΓ follows [0, 3, 5, 6] ?_
  simp [d37r2]
  refine SatD.block ?_
  refine SatD.loop (fun y : Nat => ⟨DM.look [(0, .v (ti n)), (3, .v (.box [ti a, ti b])), (5, .aref 1200 0), (6, .v (ti y))], obs [(1200, .arr 0 53 2 (opsT (dels y)))], 2000, 1000, []⟩)
    (fun y => y ≤ n) (fun y => n - y) 0 (Le.keep ?_ ?_ ?_ ?_) (by simp) (fun y hy => ?_)
  · simp
  · simp
  · simp [dels, opsT]
  · simp
  refine SatD.seq ?_
  refine SatD.regSeq hΓ follows [0, 3, 5, 6, 9] ?_
  simp [d37r3]
  have hd : (dels y).length = y := by simp [dels]
  refine SatD.cond rfl (fun hcc => ?_) (fun hcc => ?_)
  · simp at hcc
    refine SatD.skip ?_
    simp
    refine SatD.seq ?_
    refine SatD.block ?_
    refine SatD.reg hΓ follows [0, 3, 5, 6] ?_
    simp [d37r4, roomOk, chunk, hd]
    refine ⟨by omega, ?_⟩
    refine SatD.reg hΓ follows [0, 3, 5, 6] ?_
    simp [d37r5]
    rw [wrap_id (by omega)]
    refine ⟨y + 1, Le.keep ?_ ?_ ?_ ?_, by omega, by omega⟩
    · simp
    · simp
    · simp [opsT, dels, List.replicate_succ']
    · simp
  · simp at hcc
    have hyl : y = n := by omega
    subst hyl
    refine SatD.exit ?_
    simp
    refine SatD.regSeq hΓ follows [4] ?_
    simp [d37r6, roomOk, chunk, hd]
    refine ⟨by omega, ?_⟩
    refine SatD.ret ?_
    simp [d37res, opsT]
end Go.Proofs
/- The reference's builder: put. Conditions: none. -/
namespace Go.Proofs
open Go.DM
set_option linter.unusedSimpArgs false
set_option linter.unusedVariables false

def putStep (a : Arc) (p : Bool × List Arc) (b : Arc) : Bool × List Arc :=
  if p.1 = false ∧ sameKey b a = true then (true, p.2 ++ [if a.cost < b.cost then a else b])
  else if p.1 = false ∧ before a b then (true, p.2 ++ [a] ++ [b])
  else (p.1, p.2 ++ [b])
def putFold (a : Arc) (l : List Arc) : Bool × List Arc := l.foldl (putStep a) (false, [])
/-- One candidate more, in order. -/
def putL (l : List Arc) (a : Arc) : List Arc :=
  if 1099511627776 ≤ a.cost then l else if (putFold a l).1 then (putFold a l).2 else (putFold a l).2 ++ [a]
theorem putFold_succ {a : Arc} {l : List Arc} {y : Nat} (h : y < l.length) : putFold a (l.take (y + 1)) = putStep a (putFold a (l.take y)) (l.getD y default) := by
  unfold putFold
  rw [List.take_add_one, List.getElem?_eq_getElem h, List.foldl_append]
  simp [List.getD, h]
theorem putStep_len (a : Arc) (p : Bool × List Arc) (b : Arc) : (putStep a p b).2.length ≤ p.2.length + 2 := by
  unfold putStep
  split
  · simp
  · split <;> simp
theorem arcsT_snoc (l : List Arc) (a : Arc) : arcsT (l ++ [a]) = arcsT l ++ [a.enc] := by simp [arcsT]

set_option maxRecDepth 20000 in
set_option maxHeartbeats 8000000 in
theorem t35 (l : List Arc) (a : Arc) (hl : l.length ≤ 1000000000) : CallsOk Tryd.prog 27 [.sl (arcsT l), .agg a.enc] (.sl (arcsT (putL l a))) := by
  have hΓ := ok39
  obtain ⟨R, hR⟩ : ∃ R, putL l a = R := ⟨_, rfl⟩
  rw [hR]
  unfold putL at hR
  obtain ⟨af, at', ax, ac, ao⟩ := a
  obtain ⟨a, ha⟩ : ∃ a : Arc, (⟨af, at', ax, ac, ao⟩ : Arc) = a := ⟨_, rfl⟩
  have haf : a.f = af := by rw [← ha]
  have hat : a.t = at' := by rw [← ha]
  have hax : a.term = ax := by rw [← ha]
  have hac : a.cost = ac := by rw [← ha]
  have henc : a.enc = [ti af, ti at', ti ax, ti ac, .sl (opsT ao)] := by rw [← ha]; rfl
  refine c35.ok (by simp) (initSt_sat ?_)
  rw [ha] at hR
  simp [Arc.enc]
  refine SatD.regSeq hΓ follows [0, 3] ?_
  simp [d35r0]
  refine SatD.le (Le.keep (o := []) (l := [(0, .v (.sl (arcsT l))), (3, .v (.box [ti af, ti at', ti ax, ti ac, .sl (opsT ao)]))]) (nxt' := 1200) ?_ ?_ ?_ ?_) ?_
  · simp
  · simp
  · simp
  · simp
  refine SatD.seq ?_
  refine SatD.regSeq hΓ follows [0, 3, 10] ?_
  simp [d35r1]
  refine SatD.cond rfl (fun h => ?_) (fun h => ?_)
  · simp at h
    rw [if_pos (by rw [hac]; exact h)] at hR
    subst hR
    refine SatD.regSeq hΓ follows [4] ?_
    simp [d35r2]
    refine SatD.ret ?_
    simp [d35res]
  simp at h
  rw [if_neg (by rw [hac]; omega)] at hR
  refine SatD.skip ?_
  simp
  refine SatD.regSeq hΓ follows [0, 3, 5] ?_
  simp [d35r3]
  refine SatD.le (Le.keep (o := []) (l := [(0, .v (.sl (arcsT l))), (3, .v (.box [ti af, ti at', ti ax, ti ac, .sl (opsT ao)])), (5, .nil0)]) (nxt' := 1500) ?_ ?_ ?_ ?_) ?_
  · simp
  · simp
  · simp
  · simp
  refine SatD.le (Le.nilSlot (k := 5) 42 (sz := 5) (by omega) (by simp)) ?_
  rw [obs_setO]
  refine SatD.regSeq hΓ follows [0, 3, 5, 6] ?_
  simp [d35r4]
  refine SatD.seq ?_
  refine SatD.regSeq hΓ follows [0, 3, 5, 6, 7] ?_
  simp [d35r5]
  obtain ⟨L, hL⟩ : ∃ L, l.length = L := ⟨_, rfl⟩
  rw [hL] at hl
  refine SatD.block ?_
  refine SatD.loop (fun y : Nat => ⟨DM.look [(0, .v (.sl (arcsT l))), (3, .v (.box [ti af, ti at', ti ax, ti ac, .sl (opsT ao)])), (5, .aref 1500 0), (6, .v (.bool (putFold a (l.take y)).1)), (7, .v (ti y))], obs [(1500, .arr 0 42 5 (arcsT (putFold a (l.take y)).2))], 2000, 1000, []⟩)
    (fun y => y ≤ L ∧ (putFold a (l.take y)).2.length ≤ 2 * y) (fun y => L - y) 0 (Le.keep ?_ ?_ ?_ ?_) (by simp [putFold]) (fun y hy => ?_)
  · simp
  · simp
  · simp [putFold, arcsT]
  · simp [putFold]
  obtain ⟨hy1, hy2⟩ := hy
  refine SatD.seq ?_
  refine SatD.regSeq hΓ follows [0, 3, 5, 6, 7, 15] ?_
  simp [d35r6, hL]
  refine SatD.cond rfl (fun hcc => ?_) (fun hcc => ?_)
  · simp at hcc
    have hyl : y < l.length := by omega
    have hr := rowAt_arcs hyl
    have hsucc := putFold_succ (a := a) hyl
    obtain ⟨b, hb⟩ : ∃ b, l.getD y default = b := ⟨_, rfl⟩
    rw [hb] at hr hsucc
    obtain ⟨p, hp⟩ : ∃ p, putFold a (l.take y) = p := ⟨_, rfl⟩
    rw [hp] at hsucc hy2 ⊢
    have hlen2 := putStep_len a p b
    obtain ⟨dn, out⟩ := p
    simp only at hy2 hlen2 ⊢
    obtain ⟨bf, bt, bx, bc, bo⟩ := b
    have hsk : sameKey ⟨bf, bt, bx, bc, bo⟩ a = decide (bf = af ∧ bt = at' ∧ bx = ax) := by simp only [sameKey, haf, hat, hax]
    refine SatD.skip ?_
    simp
    refine SatD.seq ?_
    obtain ⟨q, hq⟩ : ∃ q, putStep a (dn, out) ⟨bf, bt, bx, bc, bo⟩ = q := ⟨_, rfl⟩
    rw [hq] at hsucc hlen2
    unfold putStep at hq
    simp only [hsk] at hq
    refine SatD.to ⟨DM.look [(0, .v (.sl (arcsT l))), (3, .v (.box [ti af, ti at', ti ax, ti ac, .sl (opsT ao)])), (5, .aref 1500 0), (6, .v (.bool q.1)), (7, .v (ti y))], obs [(1500, .arr 0 42 5 (arcsT q.2))], 3000, 1000, []⟩ ?_ ?_
    · refine SatD.block ?_
      refine SatD.seq ?_
      have hprow : [ti bf, ti bt, ti bx, ti bc, .sl (opsT bo)] = (⟨bf, bt, bx, bc, bo⟩ : Arc).enc := rfl
      obtain ⟨c1, hc1⟩ : ∃ c : Bool, decide (dn = false ∧ (bf = af ∧ bt = at' ∧ bx = ax)) = c := ⟨_, rfl⟩
      refine SatD.regToS hΓ follows [(0, .v (.sl (arcsT l))), (3, .v (.box [ti af, ti at', ti ax, ti ac, .sl (opsT ao)])), (5, .aref 1500 0), (6, .v (.bool dn)), (7, .v (ti y)), (49, .v (.bool c1))] ?_ ?_
      · cases dn with
        | true =>
          have : c1 = false := by rw [← hc1]; simp
          simp [d35r7, this]
        | false =>
          by_cases q1 : bf = af
          · by_cases q2 : bt = at'
            · by_cases q3 : bx = ax
              · have : c1 = true := by rw [← hc1]; simp [q1, q2, q3]
                simp [d35r7, hr, hcc, hL, Arc.enc, q1, q2, q3, this]
              · have : c1 = false := by rw [← hc1]; simp [q3]
                simp [d35r7, hr, hcc, hL, Arc.enc, q1, q2, q3, this]
            · have : c1 = false := by rw [← hc1]; simp [q2]
              simp [d35r7, hr, hcc, hL, Arc.enc, q1, q2, this]
          · have : c1 = false := by rw [← hc1]; simp [q1]
            simp [d35r7, hr, hcc, hL, Arc.enc, q1, this]
      -- the last append
      have tail : ∀ (dn' : Bool) (out' : List Arc), out'.length ≤ out.length + 1 → q = (dn', out' ++ [⟨bf, bt, bx, bc, bo⟩]) → ∀ nx, SatD Tryd.prog 90 (.region false d35r14) (blockQ 1 fun e s => e = Exit.normal ∧ Le s ⟨DM.look [(0, .v (.sl (arcsT l))), (3, .v (.box [ti af, ti at', ti ax, ti ac, .sl (opsT ao)])), (5, .aref 1500 0), (6, .v (.bool q.1)), (7, .v (ti y))], obs [(1500, .arr 0 42 5 (arcsT q.2))], 3000, 1000, []⟩)
          ⟨DM.look [(0, .v (.sl (arcsT l))), (3, .v (.box [ti af, ti at', ti ax, ti ac, .sl (opsT ao)])), (5, .aref 1500 0), (6, .v (.bool dn')), (7, .v (ti y))], obs [(1500, .arr 0 42 5 (arcsT out'))], nx, 1000, []⟩ := by
        intro dn' out' ho hqq nx
        refine SatD.reg hΓ follows [0, 3, 5, 6, 7] ?_
        simp [d35r14, hr, hcc, hL, Arc.enc, roomOk, chunk]
        refine ⟨by omega, Le.keep ?_ ?_ ?_ ?_⟩
        · simp
        · simp
        · simp [hqq, arcsT_snoc, Arc.enc]
        · simp [hqq]
      refine SatD.cond rfl (fun h1 => ?_) (fun h1 => ?_)
      · rw [h1] at hc1
        simp only [decide_eq_true_eq] at hc1
        obtain ⟨hdn, hkk⟩ := hc1
        subst hdn
        rw [if_pos ⟨rfl, by simpa using hkk⟩] at hq
        refine SatD.regSeq hΓ follows [0, 3, 5, 6, 7] ?_
        simp [d35r8]
        refine SatD.regSeq hΓ follows [0, 3, 5, 6, 7, 57] ?_
        simp [d35r9, hr, hcc, hL, Arc.enc]
        refine SatD.cond rfl (fun h2 => ?_) (fun h2 => ?_)
        · simp at h2
          refine SatD.regSeq hΓ follows [0, 3, 5, 6, 7] ?_
          simp [d35r10, roomOk, chunk]
          refine ⟨by omega, ?_⟩
          refine SatD.exit ?_
          simp
          rw [if_pos (by rw [hac]; exact h2)] at hq
          subst hq
          refine Le.keep ?_ ?_ ?_ ?_
          · simp
          · simp
          · simp [arcsT_snoc, henc]
          · simp
        · simp at h2
          rw [if_neg (by rw [hac]; omega)] at hq
          refine SatD.skip ?_
          simp
          refine SatD.le (Le.keep (o := [(1500, .arr 0 42 5 (arcsT out))]) (l := [(0, .v (.sl (arcsT l))), (3, .v (.box [ti af, ti at', ti ax, ti ac, .sl (opsT ao)])), (5, .aref 1500 0), (6, .v (.bool true)), (7, .v (ti y))]) (nxt' := 4000) ?_ ?_ ?_ ?_) ?_
          · simp
          · simp
          · simp
          · simp
          refine SatD.seq ?_
          refine SatD.regToS hΓ follows [(0, .v (.sl (arcsT l))), (3, .v (.box [ti af, ti at', ti ax, ti ac, .sl (opsT ao)])), (5, .aref 1500 0), (6, .v (.bool true)), (7, .v (ti y)), (71, .v (.bool false))] (by simp [d35r11]) ?_
          refine SatD.cond rfl (fun h => by cases h) (fun _ => ?_)
          refine SatD.skip ?_
          simp
          refine SatD.le (Le.keep (o := [(1500, .arr 0 42 5 (arcsT out))]) (l := [(0, .v (.sl (arcsT l))), (3, .v (.box [ti af, ti at', ti ax, ti ac, .sl (opsT ao)])), (5, .aref 1500 0), (6, .v (.bool true)), (7, .v (ti y))]) (nxt' := 5000) ?_ ?_ ?_ ?_) ?_
          · simp
          · simp
          · simp
          · simp
          exact tail true out (by omega) hq.symm 5000
      · rw [h1] at hc1
        simp only [decide_eq_false_iff_not] at hc1
        rw [if_neg (fun h => hc1 ⟨h.1, by simpa using h.2⟩)] at hq
        refine SatD.skip ?_
        simp
        refine SatD.le (Le.keep (o := [(1500, .arr 0 42 5 (arcsT out))]) (l := [(0, .v (.sl (arcsT l))), (3, .v (.box [ti af, ti at', ti ax, ti ac, .sl (opsT ao)])), (5, .aref 1500 0), (6, .v (.bool dn)), (7, .v (ti y))]) (nxt' := 4000) ?_ ?_ ?_ ?_) ?_
        · simp
        · simp
        · simp
        · simp
        refine SatD.seq ?_
        obtain ⟨c2, hc2⟩ : ∃ c : Bool, decide (dn = false ∧ before a ⟨bf, bt, bx, bc, bo⟩) = c := ⟨_, rfl⟩
        refine SatD.regToS hΓ follows [(0, .v (.sl (arcsT l))), (3, .v (.box [ti af, ti at', ti ax, ti ac, .sl (opsT ao)])), (5, .aref 1500 0), (6, .v (.bool dn)), (7, .v (ti y)), (71, .v (.bool c2))] ?_ ?_
        · cases dn with
          | true =>
            have : c2 = false := by rw [← hc2]; simp
            simp [d35r11, this]
          | false =>
            have : c2 = decide (before a ⟨bf, bt, bx, bc, bo⟩) := by rw [← hc2]; simp
            simp [d35r11, hr, hcc, hL, Arc.enc, this]
            rw [show decArc [ti bf, ti bt, ti bx, ti bc, T.sl (opsT bo)] = ⟨bf, bt, bx, bc, bo⟩ from decArc_enc ⟨bf, bt, bx, bc, bo⟩, show decArc [ti af, ti at', ti ax, ti ac, T.sl (opsT ao)] = a by rw [← henc]; exact decArc_enc a]
            exact ⟨⟨⟨⟨af, at', ax, ac, ao⟩, rfl, rfl, rfl, rfl, rfl⟩, ⟨⟨bf, bt, bx, bc, bo⟩, rfl, rfl, rfl, rfl, rfl⟩⟩, Iff.rfl⟩
        refine SatD.cond rfl (fun h2 => ?_) (fun h2 => ?_)
        · rw [h2] at hc2
          simp only [decide_eq_true_eq] at hc2
          obtain ⟨hdn, hbb⟩ := hc2
          subst hdn
          rw [if_pos ⟨rfl, hbb⟩] at hq
          refine SatD.regSeq hΓ follows [0, 3, 5, 6, 7] ?_
          simp [d35r12]
          refine SatD.reg hΓ follows [0, 3, 5, 6, 7] ?_
          simp [d35r13, roomOk, chunk]
          refine ⟨by omega, ?_⟩
          refine SatD.le (Le.keep (o := [(1500, .arr 0 42 5 (arcsT (out ++ [a])))]) (l := [(0, .v (.sl (arcsT l))), (3, .v (.box [ti af, ti at', ti ax, ti ac, .sl (opsT ao)])), (5, .aref 1500 0), (6, .v (.bool true)), (7, .v (ti y))]) (nxt' := 5000) ?_ ?_ ?_ ?_) ?_
          · simp
          · simp
          · simp [arcsT_snoc, henc]
          · simp
          exact tail true (out ++ [a]) (by simp) hq.symm 5000
        · rw [h2] at hc2
          simp only [decide_eq_false_iff_not] at hc2
          rw [if_neg hc2] at hq
          refine SatD.skip ?_
          simp
          refine SatD.le (Le.keep (o := [(1500, .arr 0 42 5 (arcsT out))]) (l := [(0, .v (.sl (arcsT l))), (3, .v (.box [ti af, ti at', ti ax, ti ac, .sl (opsT ao)])), (5, .aref 1500 0), (6, .v (.bool dn)), (7, .v (ti y))]) (nxt' := 5000) ?_ ?_ ?_ ?_) ?_
          · simp
          · simp
          · simp
          · simp
          exact tail dn out (by omega) hq.symm 5000
    · refine SatD.reg hΓ follows [0, 3, 5, 6, 7] ?_
      simp [d35r15]
      rw [wrap_id (by omega)]
      refine ⟨y + 1, Le.keep ?_ ?_ ?_ ?_, ⟨by omega, by rw [hsucc]; omega⟩, by omega⟩
      · simp
      · simp
      · simp [hsucc]
      · simp [hsucc]
  simp at hcc
  have hyl : y = l.length := by omega
  subst hyl
  rw [List.take_length] at hy2 ⊢
  obtain ⟨p, hp⟩ : ∃ p, putFold a l = p := ⟨_, rfl⟩
  rw [hp] at hR hy2 ⊢
  obtain ⟨dn, out⟩ := p
  simp only at hR hy2 ⊢
  refine SatD.exit ?_
  simp
  refine SatD.seq ?_
  refine SatD.regSeq hΓ follows [3, 5, 84] ?_
  simp [d35r16]
  refine SatD.to ⟨DM.look [(5, .aref 1500 0)], obs [(1500, .arr 0 42 5 (arcsT R))], 9000, 1000, []⟩ ?_ ?_
  · refine SatD.cond rfl (fun h3 => ?_) (fun h3 => ?_)
    · simp at h3
      subst h3
      rw [if_neg (by simp)] at hR
      refine SatD.reg hΓ follows [5] ?_
      simp [d35r17, roomOk, chunk]
      refine ⟨by omega, Le.keep ?_ ?_ ?_ ?_⟩
      · simp
      · simp
      · simp [← hR, arcsT_snoc, henc]
      · simp
    · simp at h3
      subst h3
      rw [if_pos rfl] at hR
      subst hR
      refine SatD.skip ⟨rfl, Le.keep ?_ ?_ ?_ ?_⟩
      · simp
      · simp
      · simp
      · simp
  refine SatD.regSeq hΓ follows [4] ?_
  simp [d35r18]
  refine SatD.ret ?_
  simp [d35res]
end Go.Proofs
