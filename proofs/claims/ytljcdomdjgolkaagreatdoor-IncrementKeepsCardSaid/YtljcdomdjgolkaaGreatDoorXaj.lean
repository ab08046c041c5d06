/- Grammars, values, cells and charts as Lean data; Less, Combine, none, Count, Index, better. Conditions: none. -/
import Derived.Test.YtljcdomdjgolkaaGreatDoorXai
namespace Go.Proofs
namespace Inc
open Go.DM
set_option linter.unusedSimpArgs false
set_option linter.unusedVariables false

structure Rule where
  (kind head a b price origin : Int)
  deriving DecidableEq, Inhabited
structure Normal where
  (terms nonterms start : Int)
  rules : List Rule
structure Val where
  (cost size : Int)
  deriving DecidableEq, Inhabited
structure Cell where
  (cost size rule arg : Int)
  deriving DecidableEq, Inhabited
structure Chart where
  (nonterms states : Int)
  cells : List Cell
abbrev Cell.val (c : Cell) : Val := ⟨c.cost, c.size⟩
theorem ok0 : EnvOk Tryz.prog (envOf []) := EnvOk.nil
def Rule.enc (r : Rule) : List T := [ti r.kind, ti r.head, ti r.a, ti r.b, ti r.price, ti r.origin]
def rulesT (l : List Rule) : List (List T) := l.map Rule.enc
def Normal.enc (n : Normal) : T := .agg [ti n.terms, ti n.nonterms, ti n.start, .sl (rulesT n.rules)]
def valsT (l : List Val) : List (List T) := l.map fun v => [ti v.cost, ti v.size]
def Cell.enc (c : Cell) : List T := [ti c.cost, ti c.size, ti c.rule, ti c.arg]
def cellsT (l : List Cell) : List (List T) := l.map Cell.enc
def Chart.enc (c : Chart) : T := .agg [ti c.nonterms, ti c.states, .sl (cellsT c.cells)]
def decRule : List T → Rule
  | [a, b, c, d, e, f] => ⟨unti a, unti b, unti c, unti d, unti e, unti f⟩
  | _ => default
def decRules (l : List (List T)) : List Rule := l.map decRule
def decVals (l : List (List T)) : List Val := l.map fun | [a, b] => ⟨unti a, unti b⟩ | _ => default
def decCell : List T → Cell
  | [a, b, c, d] => ⟨unti a, unti b, unti c, unti d⟩
  | _ => default
def decCells (l : List (List T)) : List Cell := l.map decCell
def decN : T → Normal
  | .agg [a, b, c, .sl r] => ⟨unti a, unti b, unti c, decRules r⟩
  | _ => ⟨0, 0, 0, []⟩
def decC : T → Chart
  | .agg [a, b, .sl r] => ⟨unti a, unti b, decCells r⟩
  | _ => ⟨0, 0, []⟩
@[simp] theorem decRule_enc (r : Rule) : decRule r.enc = r := by simp [decRule, Rule.enc, unti]
@[simp] theorem decRules_enc (l : List Rule) : decRules (rulesT l) = l := map_map_id decRule_enc l
@[simp] theorem decVals_enc (l : List Val) : decVals (valsT l) = l := map_map_id (fun _ => rfl) l
@[simp] theorem decCell_enc (r : Cell) : decCell r.enc = r := by simp [decCell, Cell.enc, unti]
@[simp] theorem decCells_enc (l : List Cell) : decCells (cellsT l) = l := map_map_id decCell_enc l
@[simp] theorem decN_enc' (a b c : Int) (l : List Rule) : decN (.agg [ti a, ti b, ti c, .sl (rulesT l)]) = ⟨a, b, c, l⟩ := by simp [decN, unti]
@[simp] theorem decN_enc (n : Normal) : decN n.enc = n := by simp [Normal.enc]
@[simp] theorem decC_enc' (a b : Int) (l : List Cell) : decC (.agg [ti a, ti b, .sl (cellsT l)]) = ⟨a, b, l⟩ := by simp [decC, unti]
@[simp] theorem decC_enc (n : Chart) : decC n.enc = n := by simp [Chart.enc]
@[simp] theorem rulesT_len (l : List Rule) : (rulesT l).length = l.length := by simp [rulesT]
@[simp] theorem valsT_len (l : List Val) : (valsT l).length = l.length := by simp [valsT]
@[simp] theorem cellsT_len (l : List Cell) : (cellsT l).length = l.length := by simp [cellsT]
theorem rowAt_rules {l : List Rule} {y : Nat} (h : y < l.length) : DM.rowAt (rulesT l) y = (l.getD y default).enc := by simp [DM.rowAt, rulesT, h]
theorem rowAt_vals {l : List Val} {y : Nat} (h : y < l.length) : DM.rowAt (valsT l) y = [ti (l.getD y default).cost, ti (l.getD y default).size] := by simp [DM.rowAt, valsT, h]
theorem rowAt_cells {l : List Cell} {y : Nat} (h : y < l.length) : DM.rowAt (cellsT l) y = (l.getD y default).enc := by simp [DM.rowAt, cellsT, h]
@[simp] theorem valsT_nil : valsT [] = [] := rfl
@[simp] theorem cellsT_nil : cellsT [] = [] := rfl
theorem getD_mem {α : Type} [Inhabited α] {l : List α} {i : Nat} (h : i < l.length) : l.getD i default ∈ l := by simp [List.getD, h]

def Val.lt (a b : Val) : Prop := a.cost < b.cost ∨ (a.cost = b.cost ∧ a.size < b.size)
instance (a b : Val) : Decidable (a.lt b) := by unfold Val.lt; infer_instance
set_option maxRecDepth 20000 in
set_option maxHeartbeats 8000000 in
theorem t92 (u v : Val) : CallsOk Tryz.prog 92 [.agg [ti u.cost, ti u.size], .agg [ti v.cost, ti v.size]] (.bool (decide (u.lt v))) := by
  obtain ⟨a, b⟩ := u
  obtain ⟨c, d⟩ := v
  obtain ⟨c1, hc1⟩ : ∃ c1 : Bool, decide ((⟨a, b⟩ : Val).lt ⟨c, d⟩) = c1 := ⟨_, rfl⟩
  rw [hc1]
  simp only [Val.lt] at hc1
  have hΓ := ok0
  refine c92.ok (by simp) (initSt_sat ?_)
  simp
  refine SatD.regSeq hΓ follows [2, 3] ?_
  simp [d92r0]
  refine SatD.le (Le.keep (o := []) (l := [(2, .v (.box [ti a, ti b])), (3, .v (.box [ti c, ti d]))]) (nxt' := 1200) ?_ ?_ ?_ ?_) ?_
  · simp
  · simp
  · simp
  · simp
  refine SatD.regToS hΓ follows [(4, .v (.bool c1))] ?_ ?_
  · by_cases q1 : a < c
    · have : c1 = true := by rw [← hc1]; simp [q1]
      simp [d92r1, q1, this]
    · by_cases q2 : a = c
      · subst q2
        by_cases q3 : b < d
        · have : c1 = true := by rw [← hc1]; simp [q3]
          simp [d92r1, q3, this]
        · have : c1 = false := by rw [← hc1]; simp [q3]
          simp [d92r1, q3, this]
      · have : c1 = false := by rw [← hc1]; simp [q1, q2]
        simp [d92r1, q1, q2, this]
  refine SatD.ret ?_
  simp [d92res]

def combF : Int → Int → List Val → Val
  | c, s, [] => ⟨c, s⟩
  | c, s, v :: l => combF (min (c + v.cost) 1099511627776) (min (s + v.size) 1099511627776) l
def comb (c : Int) (l : List Val) : Val := if (combF c 1 l).cost ≥ 1099511627776 then ⟨1099511627776, 0⟩ else combF c 1 l
theorem combF_snoc (c s : Int) (l : List Val) (v : Val) : combF c s (l ++ [v]) = ⟨min ((combF c s l).cost + v.cost) 1099511627776, min ((combF c s l).size + v.size) 1099511627776⟩ := by
  induction l generalizing c s with
  | nil => rfl
  | cons x l ih => simp only [List.cons_append, combF, ih]
def okV (v : Val) : Prop := 0 ≤ v.cost ∧ v.cost ≤ 1099511627776 ∧ 0 ≤ v.size ∧ v.size ≤ 1099511627776
theorem combF_bound {l : List Val} (h : ∀ v ∈ l, okV v) : ∀ {c s : Int}, 0 ≤ c → c ≤ 4000000000000 → 0 ≤ s → s ≤ 1099511627776 → 0 ≤ (combF c s l).cost ∧ (combF c s l).cost ≤ 4000000000000 ∧ 0 ≤ (combF c s l).size ∧ (combF c s l).size ≤ 1099511627776 := by
  induction l with
  | nil => intro c s h1 h2 h3 h4; exact ⟨h1, h2, h3, h4⟩
  | cons x l ih =>
    intro c s h1 h2 h3 h4
    obtain ⟨g1, g2, g3, g4⟩ := h x (by simp)
    exact ih (fun v hv => h v (by simp [hv])) (by omega) (by omega) (by omega) (by omega)
theorem comb_ok {c : Int} {l : List Val} (h : ∀ v ∈ l, okV v) (h1 : 0 ≤ c) (h2 : c ≤ 4000000000000) : okV (comb c l) := by
  have := combF_bound (c := c) (s := 1) h h1 h2 (by omega) (by omega)
  unfold comb okV
  split
  · simp
  · omega
theorem take_succ_getD {α : Type} [Inhabited α] {l : List α} {i : Nat} (h : i < l.length) : l.take (i + 1) = l.take i ++ [l.getD i default] := by
  rw [List.take_add_one, List.getElem?_eq_getElem h]
  simp [List.getD, h]
set_option maxRecDepth 20000 in
set_option maxHeartbeats 8000000 in
theorem t69 (c : Int) (l : List Val) (h : ∀ v ∈ l, okV v) (h1 : 0 ≤ c) (h2 : c ≤ 4000000000000) (h3 : l.length ≤ 1000000) : CallsOk Tryz.prog 69 [ti c, .sl (valsT l)] (.agg [ti (comb c l).cost, ti (comb c l).size]) := by
  have hΓ := ok0
  refine c69.ok (by simp) (initSt_sat ?_)
  simp
  refine SatD.regSeq hΓ follows [0, 1, 4] ?_
  simp [d69r0]
  refine SatD.regSeq hΓ follows [1, 4, 5, 6] ?_
  simp [d69r1]
  refine SatD.seq ?_
  refine SatD.regSeq hΓ follows [1, 4, 5, 6, 7] ?_
  simp [d69r2]
  refine SatD.block ?_
  refine SatD.loop (fun y : Nat => ⟨DM.look [(1, .v (.sl (valsT l))), (4, .ptr 1005 0), (5, .v (ti (combF c 1 (l.take y)).cost)), (6, .v (ti (combF c 1 (l.take y)).size)), (7, .v (ti y))], obs [(1005, .box [.v (ti 0), .v (ti 0)])], 2000, 1000, []⟩)
    (fun y => y ≤ l.length) (fun y => l.length - y) 0 (Le.keep ?_ ?_ ?_ ?_) (by simp) (fun y hy => ?_)
  · simp
  · simp
  · simp
  · simp [combF]
  refine SatD.seq ?_
  refine SatD.regSeq hΓ follows [1, 4, 5, 6, 7, 12] ?_
  simp [d69r3]
  refine SatD.cond rfl (fun hcc => ?_) (fun hcc => ?_)
  · have hcc : y < l.length := by simpa using hcc
    refine SatD.skip ?_
    simp
    refine SatD.seq ?_
    refine SatD.block ?_
    have rv := rowAt_vals hcc
    obtain ⟨v, hv⟩ : ∃ v, l.getD y default = v := ⟨_, rfl⟩
    rw [hv] at rv
    have hov := h v (by rw [← hv]; exact getD_mem hcc)
    obtain ⟨o1, o2, o3, o4⟩ := hov
    obtain ⟨b1, b2, b3, b4⟩ := combF_bound (c := c) (s := 1) (l := l.take y) (fun v hv => h v (List.mem_of_mem_take hv)) h1 h2 (by omega) (by omega)
    refine SatD.reg hΓ follows [1, 4, 5, 6, 7] ?_
    simp [d69r4, hcc, rv]
    refine SatD.reg hΓ follows [1, 4, 5, 6, 7] ?_
    simp [d69r5]
    rw [wrap_id (by omega), wrap_id (by omega), wrap_id (by omega)]
    refine ⟨y + 1, Le.keep ?_ ?_ ?_ ?_, by omega, by omega⟩
    · simp
    · simp
    · simp
    · simp [take_succ_getD hcc, combF_snoc, -List.getD_eq_getElem?_getD, hv]
  · have hy2 : y = l.length := by simp at hcc; omega
    subst hy2
    rw [List.take_length]
    refine SatD.exit ?_
    simp
    refine SatD.seq ?_
    refine SatD.regSeq hΓ follows [4, 5, 6, 32] ?_
    simp [d69r6]
    refine SatD.cond rfl (fun h7 => ?_) (fun h7 => ?_)
    · have h7 : (combF c 1 l).cost ≥ 1099511627776 := by simpa using h7
      refine SatD.regSeq hΓ follows [4] ?_
      simp [d69r7]
      refine SatD.ret ?_
      simp [d69res, comb, h7]
    · have h7 : ¬ (combF c 1 l).cost ≥ 1099511627776 := by simpa using h7
      refine SatD.skip ?_
      simp
      refine SatD.regSeq hΓ follows [4] ?_
      simp [d69r8]
      refine SatD.ret ?_
      simp [d69res, comb, h7]

def none4 : Cell := ⟨1099511627776, 0, -1, 0⟩
theorem t42 : CallsOk Tryz.prog 42 [] (.agg none4.enc) := by
  have hΓ := ok0
  refine c42.ok (by simp) (initSt_sat ?_)
  simp
  refine SatD.regSeq hΓ follows [0] ?_
  simp [d42r0]
  refine SatD.regSeq hΓ follows [0] ?_
  simp [d42r1]
  refine SatD.ret ?_
  simp [d42res, none4, Cell.enc]

def countI (n s : Int) : Int := n * s * (s + 1) / 2
theorem mul_bounds {a b A B : Int} (h1 : 0 ≤ a) (h2 : a ≤ A) (h3 : 0 ≤ b) (h4 : b ≤ B) : 0 ≤ a * b ∧ a * b ≤ A * B := by
  refine ⟨Int.mul_nonneg h1 h3, ?_⟩
  exact Int.mul_le_mul h2 h4 h3 (by omega)
theorem t23 (n s : Int) (h1 : 0 ≤ n) (h2 : n ≤ 1000000) (h3 : 0 ≤ s) (h4 : s ≤ 1000000) : CallsOk Tryz.prog 23 [ti n, ti s] (ti (countI n s)) := by
  have k1 := mul_bounds h1 h2 h3 h4
  have k2 := mul_bounds (b := s + 1) (B := 1000001) k1.1 k1.2 (by omega) (by omega)
  have w1 : IntKind.i64.wrap (n * s) = n * s := wrap_id (by omega)
  have w2 : IntKind.i64.wrap (s + 1) = s + 1 := wrap_id (by omega)
  have w3 : IntKind.i64.wrap (n * s * (s + 1)) = n * s * (s + 1) := wrap_id (by omega)
  have w4 : IntKind.i64.wrap ((n * s * (s + 1)).tdiv 2) = n * s * (s + 1) / 2 := by rw [tdiv2 k2.1]; exact wrap_id (by omega)
  have hΓ := ok0
  refine c23.ok (by simp) (initSt_sat ?_)
  simp
  refine SatD.regSeq hΓ follows [0, 1] ?_
  simp [d23r0]
  refine SatD.regSeq hΓ follows [4] ?_
  simp [d23r1, w1, w2, w3, w4]
  refine SatD.ret ?_
  simp [d23res, countI]

/-- How many spans begin ahead of state n. -/
def pre (st : Int) : Nat → Int
  | 0 => 0
  | n + 1 => pre st n + st - n
theorem pre_bound {st : Int} (h : st ≤ 1000) : ∀ n : Nat, (n : Int) ≤ st → 0 ≤ pre st n ∧ pre st n ≤ 1000 * n
  | 0, _ => by simp [pre]
  | n + 1, hn => by
    have := pre_bound h n (by omega)
    simp only [pre]
    omega
def indexI (n st : Int) (f t : Nat) : Int := (pre st f + t - f) * n
set_option maxRecDepth 20000 in
set_option maxHeartbeats 8000000 in
theorem t25 (n st : Int) (f t : Nat) (h1 : 0 ≤ n) (h2 : n ≤ 1000) (h3 : st ≤ 1000) (h4 : (f : Int) ≤ st) (h5 : t ≤ 1000) (h6 : f ≤ t) : CallsOk Tryz.prog 25 [ti n, ti st, ti f, ti t] (ti (indexI n st f t)) := by
  have hΓ := ok0
  refine c25.ok (by simp) (initSt_sat ?_)
  simp
  refine SatD.regSeq hΓ follows [0, 1, 2, 3] ?_
  simp [d25r0]
  refine SatD.regSeq hΓ follows [0, 1, 2, 3, 9] ?_
  simp [d25r1]
  refine SatD.seq ?_
  refine SatD.regSeq hΓ follows [0, 1, 2, 3, 9, 10] ?_
  simp [d25r2]
  refine SatD.block ?_
  refine SatD.loop (fun y : Nat => ⟨DM.look [(0, .v (ti n)), (1, .v (ti st)), (2, .v (ti f)), (3, .v (ti t)), (9, .v (ti (pre st y))), (10, .v (ti y))], obs [], 2000, 1000, []⟩)
    (fun y => y ≤ f) (fun y => f - y) 0 (Le.keep (o := []) ?_ ?_ ?_ ?_) (by simp) (fun y hy => ?_)
  · simp
  · simp
  · simp
  · simp [pre]
  refine SatD.seq ?_
  refine SatD.regSeq hΓ follows [0, 1, 2, 3, 9, 10, 13] ?_
  simp [d25r3]
  refine SatD.cond rfl (fun hcc => ?_) (fun hcc => ?_)
  · have hcc : y < f := by simpa using hcc
    refine SatD.skip ?_
    simp
    refine SatD.seq ?_
    refine SatD.block ?_
    refine SatD.reg hΓ follows [0, 1, 2, 3, 9, 10] ?_
    simp [d25r4]
    refine SatD.reg hΓ follows [0, 1, 2, 3, 9, 10] ?_
    simp [d25r5]
    have hb := pre_bound h3 y (by omega)
    have hb2 := pre_bound h3 (y + 1) (by omega)
    simp only [pre] at hb2
    rw [wrap_id (x := pre st y + st) (by omega), wrap_id (x := pre st y + st - y) (by omega), wrap_id (x := (y : Int) + 1) (by omega)]
    refine ⟨y + 1, Le.keep (o := []) ?_ ?_ ?_ ?_, by omega, by omega⟩
    · simp
    · simp
    · simp
    · simp [pre]
  · have hy2 : y = f := by simp at hcc; omega
    subst hy2
    have hb := pre_bound h3 y (by omega)
    have hm := mul_bounds (a := pre st y + t - y) (A := 2000000) (b := n) (B := 1000) (by omega) (by omega) h1 h2
    refine SatD.exit ?_
    simp
    refine SatD.regSeq hΓ follows [8] ?_
    simp [d25r6, wrap_id (x := pre st y + t) (by omega), wrap_id (x := pre st y + t - y) (by omega), wrap_id (x := (pre st y + t - y) * n) (by omega)]
    refine SatD.ret ?_
    simp [d25res, indexI]

def betterC (a : Cell) (v : Val) (r g : Int) : Cell := if v.cost ≥ 1099511627776 then a else if v.lt a.val ∨ (v = a.val ∧ (r < a.rule ∨ (r = a.rule ∧ g < a.arg))) then ⟨v.cost, v.size, r, g⟩ else a
abbrev s92 : DM.Spec := specP (fun ts => ∃ a b c d, ts = [.agg [ti a, ti b], .agg [ti c, ti d]]) (fun | [.agg [.int _ a, .int _ b], .agg [.int _ c, .int _ d]] => .bool (decide ((⟨a, b⟩ : Val).lt ⟨c, d⟩)) | _ => .bool false) true
theorem ok92 : EnvOk Tryz.prog (envOf [(92, s92)]) := by
  refine EnvOk.cons EnvOk.nil ?_
  rintro ts ⟨a, b, c, d, rfl⟩
  exact ⟨t92 ⟨a, b⟩ ⟨c, d⟩, fun _ => rfl⟩
set_option maxRecDepth 20000 in
set_option maxHeartbeats 8000000 in
theorem t68 (a : Cell) (v : Val) (r g : Int) : CallsOk Tryz.prog 68 [.agg a.enc, .agg [ti v.cost, ti v.size], ti r, ti g] (.agg (betterC a v r g).enc) := by
  obtain ⟨ac, az, ar, ag⟩ := a
  obtain ⟨vc, vs⟩ := v
  obtain ⟨R, hR⟩ : ∃ R, betterC ⟨ac, az, ar, ag⟩ ⟨vc, vs⟩ r g = R := ⟨_, rfl⟩
  rw [hR]
  unfold betterC at hR
  simp only [Cell.val, Val.mk.injEq] at hR
  have hΓ := ok92
  refine c68.ok (by simp) (initSt_sat ?_)
  simp [Cell.enc]
  refine SatD.regSeq hΓ follows [2, 3, 4, 5, 8] ?_
  simp [d68r0]
  refine SatD.le (Le.keep (o := [(1009, .box [.v (ti 0), .v (ti 0), .v (ti 0), .v (ti 0)])]) (l := [(2, .v (ti r)), (3, .v (ti g)), (4, .v (.box [ti ac, ti az, ti ar, ti ag])), (5, .v (.box [ti vc, ti vs])), (8, .ptr 1009 0)]) (nxt' := 1200) ?_ ?_ ?_ ?_) ?_
  · simp
  · simp
  · simp
  · simp
  refine SatD.seq ?_
  refine SatD.regSeq hΓ follows [2, 3, 4, 5, 8, 13] ?_
  simp [d68r1]
  refine SatD.cond rfl (fun h1 => ?_) (fun h1 => ?_)
  · have h1 : vc ≥ 1099511627776 := by simpa using h1
    refine SatD.regSeq hΓ follows [8] ?_
    simp [d68r2]
    refine SatD.ret ?_
    rw [if_pos h1] at hR
    subst hR
    simp [d68res]
  · have h1 : ¬ vc ≥ 1099511627776 := by simpa using h1
    refine SatD.skip ?_
    simp
    rw [if_neg h1] at hR
    obtain ⟨c1, hc1⟩ : ∃ c1 : Bool, decide ((⟨vc, vs⟩ : Val).lt ⟨ac, az⟩) = c1 := ⟨_, rfl⟩
    refine SatD.regSeq hΓ follows [2, 3, 4, 5, 8, 9] ?_
    simp [d68r3, hc1]
    obtain ⟨c2, hc2⟩ : ∃ c2 : Bool, decide ((vc = ac ∧ vs = az) ∧ (r < ar ∨ (r = ar ∧ g < ag))) = c2 := ⟨_, rfl⟩
    refine SatD.regToS hΓ follows [(2, .v (ti r)), (3, .v (ti g)), (4, .v (.box [ti ac, ti az, ti ar, ti ag])), (5, .v (.box [ti vc, ti vs])), (8, .ptr 1009 0), (9, .v (.bool c1)), (10, .v (.bool c2))] ?_ ?_
    · by_cases q1 : vc = ac ∧ vs = az
      · obtain ⟨rfl, rfl⟩ := q1
        by_cases q2 : r < ar
        · have : c2 = true := by rw [← hc2]; simp [q2]
          simp [d68r4, q2, this]
        · by_cases q3 : r = ar
          · subst q3
            by_cases q4 : g < ag
            · have : c2 = true := by rw [← hc2]; simp [q4]
              simp [d68r4, q4, this]
            · have : c2 = false := by rw [← hc2]; simp [q4]
              simp [d68r4, q4, this]
          · have : c2 = false := by rw [← hc2]; simp [q2, q3]
            simp [d68r4, q2, q3, this]
      · have : c2 = false := by rw [← hc2]; simp [q1]
        simp [d68r4, q1, this]
    refine SatD.seq ?_
    obtain ⟨c3, hc3⟩ : ∃ c3 : Bool, (c1 || c2) = c3 := ⟨_, rfl⟩
    refine SatD.regToS hΓ follows [(2, .v (ti r)), (3, .v (ti g)), (4, .v (.box [ti ac, ti az, ti ar, ti ag])), (5, .v (.box [ti vc, ti vs])), (8, .ptr 1009 0), (44, .v (.bool c3))] ?_ ?_
    · cases c1 <;> simp [d68r5] <;> simp at hc3 <;> simp [hc3]
    refine SatD.cond rfl (fun h5 => ?_) (fun h5 => ?_)
    · have h5 : c3 = true := by simpa using h5
      rw [h5, ← hc1, ← hc2] at hc3
      simp only [Bool.or_eq_true, decide_eq_true_eq] at hc3
      rw [if_pos hc3] at hR
      refine SatD.regSeq hΓ follows [8] ?_
      simp [d68r6]
      refine SatD.ret ?_
      subst hR
      simp [d68res]
    · have h5 : c3 = false := by simpa using h5
      rw [h5, ← hc1, ← hc2] at hc3
      simp only [Bool.or_eq_false_iff, decide_eq_false_iff_not] at hc3
      rw [if_neg (fun h => h.elim hc3.1 hc3.2)] at hR
      refine SatD.skip ?_
      simp
      refine SatD.regSeq hΓ follows [8] ?_
      simp [d68r7]
      refine SatD.ret ?_
      subst hR
      simp [d68res]
end Inc
end Go.Proofs
/- The reference chart: At, value, improve. Conditions: none. -/
namespace Go.Proofs
namespace Inc
open Go.DM
set_option linter.unusedSimpArgs false
set_option linter.unusedVariables false

@[simp] theorem rulesT_inj {a b : List Rule} : rulesT a = rulesT b ↔ a = b := ⟨fun h => by have := congrArg decRules h; simpa using this, fun h => by rw [h]⟩
@[simp] theorem valsT_inj {a b : List Val} : valsT a = valsT b ↔ a = b := ⟨fun h => by have := congrArg decVals h; simpa using this, fun h => by rw [h]⟩
@[simp] theorem cellsT_inj {a b : List Cell} : cellsT a = cellsT b ↔ a = b := ⟨fun h => by have := congrArg decCells h; simpa using this, fun h => by rw [h]⟩
@[simp] theorem intsT_inj {a b : List Int} : intsT a = intsT b ↔ a = b := ⟨fun h => by have := congrArg decInts h; simpa using this, fun h => by rw [h]⟩
@[simp] theorem arcsT_inj {a b : List Arc} : arcsT a = arcsT b ↔ a = b := ⟨fun h => by have := congrArg decArcs h; simpa using this, fun h => by rw [h]⟩
@[simp] theorem opsT_inj {a b : List (Int × Int)} : opsT a = opsT b ↔ a = b := ⟨fun h => by have := congrArg decOps h; simpa using this, fun h => by rw [h]⟩
@[simp] theorem colsT_inj {a b : List Column} : colsT a = colsT b ↔ a = b := ⟨fun h => by have := congrArg decCols h; simpa using this, fun h => by rw [h]⟩

@[simp] theorem nil_valsT {l : List Val} : [] = valsT l ↔ l = [] := by rw [← valsT_nil, valsT_inj]; exact eq_comm
@[simp] theorem one_valsT {a b : Int} {l : List Val} : [[ti a, ti b]] = valsT l ↔ l = [⟨a, b⟩] := by rw [show [[ti a, ti b]] = valsT [⟨a, b⟩] from rfl, valsT_inj]; exact eq_comm
@[simp] theorem two_valsT {a b c d : Int} {l : List Val} : [[ti a, ti b], [ti c, ti d]] = valsT l ↔ l = [⟨a, b⟩, ⟨c, d⟩] := by rw [show [[ti a, ti b], [ti c, ti d]] = valsT [⟨a, b⟩, ⟨c, d⟩] from rfl, valsT_inj]; exact eq_comm
@[simp] theorem decVals_nil : decVals [] = [] := rfl
@[simp] theorem decVals_one {a b : Int} : decVals [[ti a, ti b]] = [⟨a, b⟩] := rfl
@[simp] theorem decVals_two {a b c d : Int} : decVals [[ti a, ti b], [ti c, ti d]] = [⟨a, b⟩, ⟨c, d⟩] := rfl

def atI (c : Chart) (h f t : Int) : Cell :=
  if h < 0 ∨ h ≥ c.nonterms ∨ f < 0 ∨ t < f ∨ t ≥ c.states then none4 else c.cells.getD (indexI c.nonterms c.states f.toNat t.toNat + h).toNat none4
def cOk (c : Chart) : Prop := 0 ≤ c.nonterms ∧ c.nonterms ≤ 1000 ∧ 0 ≤ c.states ∧ c.states ≤ 1000 ∧ c.cells.length ≤ 1000000000000 ∧ ∀ x ∈ c.cells, okV x.val
theorem okV_none : okV none4.val := by simp [okV, none4]
theorem atI_ok {c : Chart} (hc : cOk c) (h f t : Int) : okV (atI c h f t).val := by
  unfold atI
  split
  · exact okV_none
  · rw [List.getD]
    cases e : c.cells[(indexI c.nonterms c.states f.toNat t.toNat + h).toNat]? with
    | none => exact okV_none
    | some x => exact hc.2.2.2.2.2 x (List.mem_of_getElem? e)

abbrev s42 : DM.Spec := specP (fun ts => ts = []) (fun _ => .agg [ti 1099511627776, ti 0, ti (-1), ti 0]) true
abbrev s25 : DM.Spec := specP (fun ts => ∃ n st f t : Int, ts = [ti n, ti st, ti f, ti t] ∧ 0 ≤ n ∧ n ≤ 1000 ∧ st ≤ 1000 ∧ 0 ≤ f ∧ f ≤ st ∧ t ≤ 1000 ∧ f ≤ t) (fun | [.int _ n, .int _ st, .int _ f, .int _ t] => ti (indexI n st f.toNat t.toNat) | _ => .bool false) true
theorem okAt : EnvOk Tryz.prog (envOf [(42, s42), (25, s25)]) := by
  refine EnvOk.cons (EnvOk.cons EnvOk.nil ?_) ?_
  · rintro ts ⟨n, st, f, t, rfl, h1, h2, h3, h4, h5, h6, h7⟩
    obtain ⟨f, rfl⟩ := Int.eq_ofNat_of_zero_le h4
    obtain ⟨t, rfl⟩ := Int.eq_ofNat_of_zero_le (a := t) (by omega)
    exact ⟨by simpa using t25 n st f t h1 h2 h3 h5 (by omega) (by omega), fun _ => rfl⟩
  · rintro ts rfl
    exact ⟨t42, fun _ => rfl⟩
theorem indexI_bound {n st : Int} {f t : Nat} (h1 : 0 ≤ n) (h2 : n ≤ 1000) (h3 : st ≤ 1000) (h4 : (f : Int) ≤ st) (h5 : t ≤ 1000) (h6 : f ≤ t) : 0 ≤ indexI n st f t ∧ indexI n st f t ≤ 2000000000 := by
  have hb := pre_bound h3 f h4
  have := mul_bounds (a := pre st f + t - f) (A := 2000000) (b := n) (B := 1000) (by omega) (by omega) h1 h2
  unfold indexI
  omega
set_option maxRecDepth 20000 in
set_option maxHeartbeats 8000000 in
theorem t19 (c : Chart) (h f t : Int) (hc : cOk c) : CallsOk Tryz.prog 19 [c.enc, .agg [ti h, ti f, ti t]] (.agg (atI c h f t).enc) := by
  obtain ⟨cn, cs, cl⟩ := c
  obtain ⟨k1, k2, k3, k4, k5, k6⟩ := hc
  simp only at k1 k2 k3 k4 k5 k6
  obtain ⟨R, hR⟩ : ∃ R, atI ⟨cn, cs, cl⟩ h f t = R := ⟨_, rfl⟩
  rw [hR]
  unfold atI at hR
  simp only at hR
  have hΓ := okAt
  refine c19.ok (by simp) (initSt_sat ?_)
  simp [Chart.enc]
  refine SatD.regSeq hΓ follows [2, 3, 4] ?_
  simp [d19r0]
  refine SatD.le (Le.keep (o := [(1005, .box [.v (ti 0), .v (ti 0), .v (ti 0), .v (ti 0)])]) (l := [(2, .v (.box [ti cn, ti cs, .sl (cellsT cl)])), (3, .v (.box [ti h, ti f, ti t])), (4, .ptr 1005 0)]) (nxt' := 1200) ?_ ?_ ?_ ?_) ?_
  · simp
  · simp
  · simp
  · simp
  refine SatD.seq ?_
  obtain ⟨c1, hc1⟩ : ∃ c1 : Bool, decide (h < 0 ∨ h ≥ cn ∨ f < 0 ∨ t < f ∨ t ≥ cs) = c1 := ⟨_, rfl⟩
  refine SatD.regToS hΓ follows [(2, .v (.box [ti cn, ti cs, .sl (cellsT cl)])), (3, .v (.box [ti h, ti f, ti t])), (4, .ptr 1005 0), (34, .v (.bool c1))] ?_ ?_
  · by_cases q1 : h < 0
    · have : c1 = true := by rw [← hc1]; simp [q1]
      simp [d19r1, q1, this]
    · skip
      by_cases q2 : h ≥ cn
      · have : c1 = true := by rw [← hc1]; simp [q2]
        simp [d19r1, q1, q2, this]
      · skip
        by_cases q3 : f < 0
        · have : c1 = true := by rw [← hc1]; simp [q3]
          simp [d19r1, q1, q2, q3, this]
        · skip
          by_cases q4 : t < f
          · have : c1 = true := by rw [← hc1]; simp [q4]
            simp [d19r1, q1, q2, q3, q4, this]
          · skip
            by_cases q5 : t ≥ cs
            · have : c1 = true := by rw [← hc1]; simp [q5]
              simp [d19r1, q1, q2, q3, q4, q5, this]
            · skip
              have : c1 = false := by rw [← hc1]; simp [q1, q2, q3, q4, q5]
              simp [d19r1, q1, q2, q3, q4, q5, this]
  refine SatD.cond rfl (fun h1 => ?_) (fun h1 => ?_)
  · rw [h1] at hc1
    rw [if_pos (of_decide_eq_true hc1)] at hR
    subst hR
    refine SatD.regSeq hΓ follows [4] ?_
    simp [d19r2]
    refine SatD.ret ?_
    simp [d19res, none4, Cell.enc]
  · rw [h1] at hc1
    have hc1 := of_decide_eq_false hc1
    rw [if_neg hc1] at hR
    obtain ⟨f, rfl⟩ := Int.eq_ofNat_of_zero_le (a := f) (by omega)
    obtain ⟨t, rfl⟩ := Int.eq_ofNat_of_zero_le (a := t) (by omega)
    simp only [Int.toNat_natCast] at hR
    refine SatD.skip ?_
    simp
    have hib := indexI_bound (n := cn) (st := cs) (f := f) (t := t) k1 k2 k4 (by omega) (by omega) (by omega)
    obtain ⟨x, hx⟩ : ∃ x, indexI cn cs f t + h = x := ⟨_, rfl⟩
    have w1 : IntKind.i64.wrap (indexI cn cs f t + h) = x := by rw [hx]; exact wrap_id (by omega)
    rw [hx] at hR
    refine SatD.regSeq hΓ follows [2, 4, 5] ?_
    simp [d19r3, and_assoc, w1]
    refine ⟨by omega, by omega, by omega, by omega, by omega, by omega, ?_⟩
    refine SatD.seq ?_
    refine SatD.regSeq hΓ follows [2, 4, 5, 52] ?_
    simp [d19r4]
    refine SatD.cond rfl (fun h2 => ?_) (fun h2 => ?_)
    · have h2 : (cl.length : Int) ≤ x := by simpa using h2
      rw [List.getD, List.getElem?_eq_none (by omega)] at hR
      subst hR
      refine SatD.regSeq hΓ follows [4] ?_
      simp [d19r5]
      refine SatD.ret ?_
      simp [d19res, none4, Cell.enc]
    · have h2 : ¬ (cl.length : Int) ≤ x := by simpa using h2
      obtain ⟨x, rfl⟩ := Int.eq_ofNat_of_zero_le (a := x) (by omega)
      have hxl : x < cl.length := by omega
      refine SatD.skip ?_
      simp
      have rr := rowAt_cells hxl
      have hR2 : cl.getD x default = R := by rw [← hR]; simp [List.getD, hxl]
      rw [hR2] at rr
      refine SatD.regSeq hΓ follows [4] ?_
      simp [d19r6, hxl, rr, Cell.enc]
      refine SatD.ret ?_
      simp [d19res, Cell.enc]

def valueV (c : Chart) (own : List Cell) (fr to h f t : Int) : Val := if f = fr ∧ t = to then (own.getD h.toNat default).val else (atI c h f t).val
def vPre (c : Chart) (own : List Cell) (fr to h f t : Int) : Prop := cOk c ∧ own.length ≤ 1000000 ∧ (f = fr ∧ t = to → 0 ≤ h ∧ h < own.length)
theorem valueV_ok {c : Chart} {own : List Cell} {fr to h f t : Int} (h1 : vPre c own fr to h f t) (h2 : ∀ x ∈ own, okV x.val) : okV (valueV c own fr to h f t) := by
  unfold valueV
  split
  · rename_i e
    have := h1.2.2 e
    exact h2 _ (getD_mem (by omega))
  · exact atI_ok h1.1 _ _ _
abbrev s19 : DM.Spec := specP (fun ts => ∃ cn cs cl h f t, ts = [.agg [ti cn, ti cs, .sl (cellsT cl)], .agg [ti h, ti f, ti t]] ∧ cOk ⟨cn, cs, cl⟩) (fun | [c, .agg [.int _ h, .int _ f, .int _ t]] => .agg [ti (atI (decC c) h f t).cost, ti (atI (decC c) h f t).size, ti (atI (decC c) h f t).rule, ti (atI (decC c) h f t).arg] | _ => .bool false) true
theorem ok19 : EnvOk Tryz.prog (envOf [(19, s19)]) := by
  refine EnvOk.cons EnvOk.nil ?_
  rintro ts ⟨cn, cs, cl, h, f, t, rfl, hc⟩
  exact ⟨by simpa [Chart.enc, Cell.enc] using t19 ⟨cn, cs, cl⟩ h f t hc, fun _ => rfl⟩
set_option maxRecDepth 20000 in
set_option maxHeartbeats 8000000 in
theorem t70 (c : Chart) (own : List Cell) (fr to h f t : Int) (hp : vPre c own fr to h f t) : CallsOk Tryz.prog 70 [c.enc, .sl (cellsT own), ti fr, ti to, .agg [ti h, ti f, ti t]] (.agg [ti (valueV c own fr to h f t).cost, ti (valueV c own fr to h f t).size]) := by
  obtain ⟨cn, cs, cl⟩ := c
  obtain ⟨hc, hl, ho⟩ := hp
  obtain ⟨R, hR⟩ : ∃ R, valueV ⟨cn, cs, cl⟩ own fr to h f t = R := ⟨_, rfl⟩
  rw [hR]
  unfold valueV at hR
  have hΓ := ok19
  refine c70.ok (by simp) (initSt_sat ?_)
  simp [Chart.enc]
  refine SatD.regSeq hΓ follows [1, 2, 3, 5, 9, 10] ?_
  simp [d70r0]
  refine SatD.le (Le.keep (o := [(1011, .box [.v (ti 0), .v (ti 0)])]) (l := [(1, .v (.sl (cellsT own))), (2, .v (ti fr)), (3, .v (ti to)), (5, .v (.box [ti cn, ti cs, .sl (cellsT cl)])), (9, .v (.box [ti h, ti f, ti t])), (10, .ptr 1011 0)]) (nxt' := 1200) ?_ ?_ ?_ ?_) ?_
  · simp
  · simp
  · simp
  · simp
  refine SatD.seq ?_
  obtain ⟨c1, hc1⟩ : ∃ c1 : Bool, decide (f = fr ∧ t = to) = c1 := ⟨_, rfl⟩
  refine SatD.regToS hΓ follows [(1, .v (.sl (cellsT own))), (5, .v (.box [ti cn, ti cs, .sl (cellsT cl)])), (9, .v (.box [ti h, ti f, ti t])), (10, .ptr 1011 0), (20, .v (.bool c1))] ?_ ?_
  · by_cases q1 : f = fr
    · by_cases q2 : t = to
      · have : c1 = true := by rw [← hc1]; simp [q1, q2]
        simp [d70r1, q1, q2, this]
      · have : c1 = false := by rw [← hc1]; simp [q2]
        simp [d70r1, q1, q2, this]
    · have : c1 = false := by rw [← hc1]; simp [q1]
      simp [d70r1, q1, this]
  refine SatD.cond rfl (fun h1 => ?_) (fun h1 => ?_)
  · rw [h1] at hc1
    have hc1 := of_decide_eq_true hc1
    rw [if_pos hc1] at hR
    obtain ⟨g1, g2⟩ := ho hc1
    obtain ⟨h, rfl⟩ := Int.eq_ofNat_of_zero_le g1
    have hl2 : h < own.length := by omega
    have rr := rowAt_cells hl2
    simp only [Int.toNat_natCast] at hR
    obtain ⟨x, hx⟩ : ∃ x, own.getD h default = x := ⟨_, rfl⟩
    rw [hx] at rr hR
    refine SatD.regSeq hΓ follows [10] ?_
    simp [d70r2, hl2, rr, Cell.enc]
    refine SatD.ret ?_
    subst hR
    simp [d70res]
  · rw [h1] at hc1
    have hc1 := of_decide_eq_false hc1
    rw [if_neg hc1] at hR
    refine SatD.skip ?_
    simp
    refine SatD.regSeq hΓ follows [10] ?_
    simp [d70r3, and_assoc, hc]
    refine SatD.ret ?_
    subst hR
    simp [d70res]
end Inc
end Go.Proofs
/- The reference chart: improve. Conditions: none. -/
namespace Go.Proofs
namespace Inc
open Go.DM
set_option linter.unusedSimpArgs false
set_option linter.unusedVariables false

def ruleOk (n : Normal) (r : Rule) : Prop := 0 ≤ r.head ∧ r.head < n.nonterms ∧ 0 ≤ r.price ∧ r.price ≤ 1000 ∧ (r.kind = 1 ∨ (r.kind = 2 ∧ 0 ≤ r.a ∧ r.a < n.terms) ∨ (r.kind = 3 ∧ 0 ≤ r.a ∧ r.a < n.nonterms) ∨ (r.kind = 4 ∧ 0 ≤ r.a ∧ r.a < n.nonterms ∧ 0 ≤ r.b ∧ r.b < n.nonterms))
def nOk (n : Normal) : Prop := 1 ≤ n.nonterms ∧ n.nonterms ≤ 1000 ∧ n.rules.length ≤ 600 ∧ ∀ r ∈ n.rules, ruleOk n r
def lOk (l : Lattice) : Prop := 1 ≤ l.states ∧ l.states ≤ 1000 ∧ l.arcs.length ≤ 1000000000 ∧ ∀ a ∈ l.arcs, 0 ≤ a.cost ∧ a.cost ≤ 1099511627776
def ownOk (n : Normal) (own : List Cell) : Prop := (own.length : Int) = n.nonterms ∧ ∀ x ∈ own, okV x.val

def stepT (r : Rule) (arcs : List Arc) (fr to i : Int) (x : Cell) (k : Nat) : Cell :=
  if (arcs.getD k default).f = fr ∧ (arcs.getD k default).t = to ∧ (arcs.getD k default).term = r.a then betterC x (comb (r.price + (arcs.getD k default).cost) []) i k else x
def stepB (r : Rule) (c : Chart) (own : List Cell) (fr to i : Int) (x : Cell) (k : Nat) : Cell :=
  betterC x (comb r.price [valueV c own fr to r.a fr (fr + k), valueV c own fr to r.b (fr + k) to]) i (fr + k)
def improveR (r : Rule) (l : Lattice) (c : Chart) (own : List Cell) (fr to i : Int) (x : Cell) : Cell :=
  if r.kind = 1 then (if fr = to then betterC x (comb r.price []) i fr else x)
  else if r.kind = 2 then (List.range l.arcs.length).foldl (stepT r l.arcs fr to i) x
  else if r.kind = 3 then betterC x (comb r.price [valueV c own fr to r.a fr to]) i fr
  else (List.range (to - fr + 1).toNat).foldl (stepB r c own fr to i) x
def improveC (n : Normal) (l : Lattice) (c : Chart) (own : List Cell) (fr to : Int) (i : Nat) : Cell :=
  improveR (n.rules.getD i default) l c own fr to i (own.getD (n.rules.getD i default).head.toNat default)

abbrev s69 : DM.Spec := specP (fun ts => ∃ c l, ts = [ti c, .sl (valsT l)] ∧ (∀ v ∈ l, okV v) ∧ 0 ≤ c ∧ c ≤ 4000000000000 ∧ l.length ≤ 1000000) (fun | [.int _ c, .sl l] => .agg [ti (comb c (decVals l)).cost, ti (comb c (decVals l)).size] | _ => .bool false) true
abbrev s68 : DM.Spec := specP (fun ts => ∃ a b c d vc vs r g, ts = [.agg [ti a, ti b, ti c, ti d], .agg [ti vc, ti vs], ti r, ti g])
  (fun | [.agg [.int _ a, .int _ b, .int _ c, .int _ d], .agg [.int _ vc, .int _ vs], .int _ r, .int _ g] => .agg [ti (betterC ⟨a, b, c, d⟩ ⟨vc, vs⟩ r g).cost, ti (betterC ⟨a, b, c, d⟩ ⟨vc, vs⟩ r g).size, ti (betterC ⟨a, b, c, d⟩ ⟨vc, vs⟩ r g).rule, ti (betterC ⟨a, b, c, d⟩ ⟨vc, vs⟩ r g).arg] | _ => .bool false) true
abbrev s70 : DM.Spec := specP (fun ts => ∃ cn cs cl own fr to h f t, ts = [.agg [ti cn, ti cs, .sl (cellsT cl)], .sl (cellsT own), ti fr, ti to, .agg [ti h, ti f, ti t]] ∧ vPre ⟨cn, cs, cl⟩ own fr to h f t)
  (fun | [c, .sl own, .int _ fr, .int _ to, .agg [.int _ h, .int _ f, .int _ t]] => .agg [ti (valueV (decC c) (decCells own) fr to h f t).cost, ti (valueV (decC c) (decCells own) fr to h f t).size] | _ => .bool false) true
theorem okI : EnvOk Tryz.prog (envOf [(69, s69), (68, s68), (70, s70)]) := by
  refine EnvOk.cons (EnvOk.cons (EnvOk.cons EnvOk.nil ?_) ?_) ?_
  · rintro ts ⟨cn, cs, cl, own, fr, to, h, f, t, rfl, hp⟩
    exact ⟨by simpa [Chart.enc] using t70 ⟨cn, cs, cl⟩ own fr to h f t hp, fun _ => rfl⟩
  · rintro ts ⟨a, b, c, d, vc, vs, r, g, rfl⟩
    exact ⟨by simpa [Cell.enc] using t68 ⟨a, b, c, d⟩ ⟨vc, vs⟩ r g, fun _ => rfl⟩
  · rintro ts ⟨c, l, rfl, h1, h2, h3, h4⟩
    exact ⟨by simpa using t69 c l h1 h2 h3 h4, fun _ => rfl⟩
@[simp] theorem valsT_nil2 {l : List Val} : valsT l = [] ↔ l = [] := by rw [eq_comm, nil_valsT]
theorem okV_nil : ∀ v ∈ ([] : List Val), okV v := fun v h => by cases h
set_option maxRecDepth 20000 in
set_option maxHeartbeats 8000000 in
theorem t46 (n : Normal) (l : Lattice) (c : Chart) (own : List Cell) (fr to i : Nat) (hn : nOk n) (hl : lOk l) (hc : cOk c) (ho : ownOk n own) (hi : i < n.rules.length) (hft : fr ≤ to) (htm : to ≤ 1000) :
    CallsOk Tryz.prog 46 [n.enc, l.enc, c.enc, .sl (cellsT own), ti fr, ti to, ti i] (.agg (improveC n l c own fr to i).enc) := by
  obtain ⟨r, hr⟩ : ∃ r, n.rules.getD i default = r := ⟨_, rfl⟩
  have hro : ruleOk n r := hn.2.2.2 r (by rw [← hr]; exact getD_mem hi)
  obtain ⟨x, hx⟩ : ∃ x, own.getD r.head.toNat default = x := ⟨_, rfl⟩
  obtain ⟨R, hR⟩ : ∃ R, improveC n l c own fr to i = R := ⟨_, rfl⟩
  rw [hR]
  unfold improveC at hR
  rw [hr, hx] at hR
  obtain ⟨nt, nn, ns, rules⟩ := n
  obtain ⟨ls, arcs, fin⟩ := l
  obtain ⟨cn, cs, cl⟩ := c
  obtain ⟨rk, rh, ra, rb, rp, rg⟩ := r
  obtain ⟨xc, xs, xr, xg⟩ := x
  obtain ⟨q1, q2, q3, q4, q5⟩ := hro
  obtain ⟨o1, o2⟩ := ho
  obtain ⟨l1, l2, l3, l4⟩ := hl
  obtain ⟨n1, n2, n3, n4⟩ := hn
  simp only at q1 q2 q3 q4 q5 o1 hr hi hx l1 l2 l3 l4 n1 n2 n3 n4
  obtain ⟨rh, rfl⟩ := Int.eq_ofNat_of_zero_le q1
  simp only [Int.toNat_natCast] at hx
  have hhl : rh < own.length := by omega
  have rr := rowAt_rules hi
  rw [hr] at rr
  have rx := rowAt_cells hhl
  rw [hx] at rx
  have hin : ∀ {h : Int}, 0 ≤ h → h < nn → ∀ f t : Int, vPre ⟨cn, cs, cl⟩ own fr to h f t := fun h0 h1 f t => ⟨hc, by omega, fun _ => ⟨h0, by omega⟩⟩
  have hΓ := okI
  refine c46.ok (by simp) (initSt_sat ?_)
  simp [Normal.enc, Lattice.enc, Chart.enc]
  refine SatD.regSeq hΓ follows [3, 4, 5, 6, 7, 8, 9, 14] ?_
  simp [d46r0]
  refine SatD.le (Le.keep (o := [(1015, .box [.v (ti 0), .v (ti 0), .v (ti 0), .v (ti 0)])]) (l := [(3, .v (.sl (cellsT own))), (4, .v (ti fr)), (5, .v (ti to)), (6, .v (ti i)), (7, .v (.box [ti nt, ti nn, ti ns, .sl (rulesT rules)])), (8, .v (.box [ti ls, .sl (arcsT arcs), .sl (intsT fin)])), (9, .v (.box [ti cn, ti cs, .sl (cellsT cl)])), (14, .ptr 1015 0)]) (nxt' := 1200) ?_ ?_ ?_ ?_) ?_
  · simp
  · simp
  · simp
  · simp
  refine SatD.regSeq hΓ follows [3, 4, 5, 6, 7, 8, 9, 14, 15] ?_
  simp [d46r1, hi, rr, Rule.enc]
  refine SatD.le (Le.keep (o := [(1015, .box [.v (ti 0), .v (ti 0), .v (ti 0), .v (ti 0)])]) (l := [(3, .v (.sl (cellsT own))), (4, .v (ti fr)), (5, .v (ti to)), (6, .v (ti i)), (7, .v (.box [ti nt, ti nn, ti ns, .sl (rulesT rules)])), (8, .v (.box [ti ls, .sl (arcsT arcs), .sl (intsT fin)])), (9, .v (.box [ti cn, ti cs, .sl (cellsT cl)])), (14, .ptr 1015 0), (15, .v (.box [ti rk, ti rh, ti ra, ti rb, ti rp, ti rg]))]) (nxt' := 1400) ?_ ?_ ?_ ?_) ?_
  · simp
  · simp
  · simp
  · simp
  refine SatD.regSeq hΓ follows [3, 4, 5, 6, 7, 8, 9, 14, 15, 16] ?_
  simp [d46r2, hhl, rx, Cell.enc]
  refine SatD.le (Le.keep (o := [(1015, .box [.v (ti 0), .v (ti 0), .v (ti 0), .v (ti 0)]), (1417, .box [.v (ti xc), .v (ti xs), .v (ti xr), .v (ti xg)])]) (l := [(3, .v (.sl (cellsT own))), (4, .v (ti fr)), (5, .v (ti to)), (6, .v (ti i)), (7, .v (.box [ti nt, ti nn, ti ns, .sl (rulesT rules)])), (8, .v (.box [ti ls, .sl (arcsT arcs), .sl (intsT fin)])), (9, .v (.box [ti cn, ti cs, .sl (cellsT cl)])), (14, .ptr 1015 0), (15, .v (.box [ti rk, ti rh, ti ra, ti rb, ti rp, ti rg])), (16, .ptr 1417 0)]) (nxt' := 1600) ?_ ?_ ?_ ?_) ?_
  · simp
  · simp
  · simp
  · simp
  refine SatD.seq ?_
  refine SatD.regSeq hΓ follows [3, 4, 5, 6, 8, 9, 14, 15, 16, 33] ?_
  simp [d46r3]
  refine SatD.block ?_
  refine SatD.regSeq hΓ follows [3, 4, 5, 6, 8, 9, 14, 15, 16, 33, 70] ?_
  simp [d46r4]
  refine SatD.cond rfl (fun k1 => ?_) (fun k1 => ?_)
  · have k1 : rk = 1 := by simpa using k1
    rw [show rk = 1 from k1] at hR
    simp only [improveR, if_pos] at hR
    refine SatD.regSeq hΓ follows [4, 6, 14, 15, 16, 74] ?_
    simp [d46r5]
    refine SatD.cond rfl (fun k2 => ?_) (fun k2 => ?_)
    · have k2 : (fr : Int) = to := by simpa using k2
      rw [if_pos k2] at hR
      refine SatD.reg hΓ follows [14, 16] ?_
      simp [d46r6, and_assoc]
      refine ⟨by omega, by omega, ?_⟩
      refine SatD.regSeq hΓ follows [14] ?_
      simp [d46r22]
      refine SatD.ret ?_
      subst hR
      simp [d46res, Cell.enc]
    · have k2 : ¬ (fr : Int) = to := by simpa using k2
      rw [if_neg k2] at hR
      refine SatD.skip ?_
      simp
      refine SatD.regSeq hΓ follows [14] ?_
      simp [d46r22]
      refine SatD.ret ?_
      subst hR
      simp [d46res, Cell.enc]
  · have k1 : ¬ rk = 1 := by simpa using k1
    simp only [improveR, k1, if_false] at hR
    refine SatD.regSeq hΓ follows [3, 4, 5, 6, 8, 9, 14, 15, 16, 33, 82] ?_
    simp [d46r7]
    refine SatD.cond rfl (fun k3 => ?_) (fun k3 => ?_)
    · have k3 : rk = 2 := by simpa using k3
      rw [if_pos k3] at hR
      refine SatD.regSeq hΓ follows [4, 5, 6, 8, 14, 15, 16, 17] ?_
      simp [d46r8]
      refine SatD.block ?_
      refine SatD.loop (fun y : Nat => ⟨DM.look [(4, .v (ti fr)), (5, .v (ti to)), (6, .v (ti i)), (8, .v (.box [ti ls, .sl (arcsT arcs), .sl (intsT fin)])), (14, .ptr 1015 0), (15, .v (.box [ti rk, ti rh, ti ra, ti rb, ti rp, ti rg])), (16, .ptr 1417 0), (17, .v (ti y))], obs [(1015, .box [.v (ti 0), .v (ti 0), .v (ti 0), .v (ti 0)]), (1417, .box [.v (ti ((List.range y).foldl (stepT ⟨rk, rh, ra, rb, rp, rg⟩ arcs fr to i) ⟨xc, xs, xr, xg⟩).cost), .v (ti ((List.range y).foldl (stepT ⟨rk, rh, ra, rb, rp, rg⟩ arcs fr to i) ⟨xc, xs, xr, xg⟩).size), .v (ti ((List.range y).foldl (stepT ⟨rk, rh, ra, rb, rp, rg⟩ arcs fr to i) ⟨xc, xs, xr, xg⟩).rule), .v (ti ((List.range y).foldl (stepT ⟨rk, rh, ra, rb, rp, rg⟩ arcs fr to i) ⟨xc, xs, xr, xg⟩).arg)])], 2000, 1000, []⟩)
        (fun y => y ≤ arcs.length) (fun y => arcs.length - y) 0 (Le.keep ?_ ?_ ?_ ?_) (by simp) (fun y hy => ?_)
      · simp
      · simp
      · simp
      · simp
      obtain ⟨X, hX⟩ : ∃ X, ((List.range y).foldl (stepT ⟨rk, rh, ra, rb, rp, rg⟩ arcs fr to i) ⟨xc, xs, xr, xg⟩) = X := ⟨_, rfl⟩
      rw [hX]
      refine SatD.seq ?_
      refine SatD.regSeq hΓ follows [4, 5, 6, 8, 14, 15, 16, 17, 88] ?_
      simp [d46r9]
      refine SatD.cond rfl (fun hcc => ?_) (fun hcc => ?_)
      · have hcc : y < arcs.length := by simpa using hcc
        refine SatD.skip ?_
        simp
        refine SatD.seq ?_
        refine SatD.block ?_
        have ra1 := rowAt_arcs hcc
        obtain ⟨a, ha⟩ : ∃ a, arcs.getD y default = a := ⟨_, rfl⟩
        rw [ha] at ra1
        obtain ⟨g1, g2⟩ := l4 a (by rw [← ha]; exact getD_mem hcc)
        obtain ⟨c1, hc1⟩ : ∃ c1 : Bool, decide (a.f = fr ∧ a.t = to ∧ a.term = ra) = c1 := ⟨_, rfl⟩
        refine SatD.regToS hΓ follows [(4, .v (ti fr)), (5, .v (ti to)), (6, .v (ti i)), (8, .v (.box [ti ls, .sl (arcsT arcs), .sl (intsT fin)])), (14, .ptr 1015 0), (15, .v (.box [ti rk, ti rh, ti ra, ti rb, ti rp, ti rg])), (16, .ptr 1417 0), (17, .v (ti y)), (119, .v (.bool c1))] ?_ ?_
        · by_cases q1 : a.f = fr
          · by_cases q2 : a.t = to
            · by_cases q3 : a.term = ra
              · have : c1 = true := by rw [← hc1]; simp [q1, q2, q3]
                simp [d46r10, hcc, ra1, Arc.enc, q1, q2, q3, this]
              · have : c1 = false := by rw [← hc1]; simp [q3]
                simp [d46r10, hcc, ra1, Arc.enc, q1, q2, q3, this]
            · have : c1 = false := by rw [← hc1]; simp [q2]
              simp [d46r10, hcc, ra1, Arc.enc, q1, q2, this]
          · have : c1 = false := by rw [← hc1]; simp [q1]
            simp [d46r10, hcc, ra1, Arc.enc, q1, this]
        refine SatD.cond rfl (fun h5 => ?_) (fun h5 => ?_)
        · rw [h5] at hc1
          have hc1 := of_decide_eq_true hc1
          have hst : stepT ⟨rk, rh, ra, rb, rp, rg⟩ arcs fr to i X y = betterC X (comb (rp + a.cost) []) i y := by unfold stepT; rw [ha, if_pos hc1]
          refine SatD.reg hΓ follows [4, 5, 6, 8, 14, 15, 16, 17] ?_
          simp [d46r11, hcc, ra1, Arc.enc, and_assoc, wrap_id (x := rp + a.cost) (by omega)]
          refine ⟨by omega, by omega, ?_⟩
          refine SatD.reg hΓ follows [4, 5, 6, 8, 14, 15, 16, 17] ?_
          simp [d46r12]
          rw [wrap_id (x := (y : Int) + 1) (by omega)]
          refine ⟨y + 1, Le.keep ?_ ?_ ?_ ?_, by omega, by omega⟩
          · simp
          · simp
          · simp [List.range_succ, List.foldl_append, hX, hst]
          · simp
        · rw [h5] at hc1
          have hc1 := of_decide_eq_false hc1
          have hst : stepT ⟨rk, rh, ra, rb, rp, rg⟩ arcs fr to i X y = X := by unfold stepT; rw [ha, if_neg hc1]
          refine SatD.skip ?_
          simp
          refine SatD.reg hΓ follows [4, 5, 6, 8, 14, 15, 16, 17] ?_
          simp [d46r12]
          rw [wrap_id (x := (y : Int) + 1) (by omega)]
          refine ⟨y + 1, Le.keep ?_ ?_ ?_ ?_, by omega, by omega⟩
          · simp
          · simp
          · simp [List.range_succ, List.foldl_append, hX, hst]
          · simp
      · have hy2 : y = arcs.length := by simp at hcc; omega
        subst hy2
        rw [hX] at hR
        refine SatD.exit ?_
        simp
        refine SatD.regSeq hΓ follows [14] ?_
        simp [d46r22]
        refine SatD.ret ?_
        subst hR
        simp [d46res, Cell.enc]
    · have k3 : ¬ rk = 2 := by simpa using k3
      rw [if_neg k3] at hR
      refine SatD.regSeq hΓ follows [3, 4, 5, 6, 9, 14, 15, 16, 134] ?_
      simp [d46r13]
      refine SatD.cond rfl (fun k4 => ?_) (fun k4 => ?_)
      · have k4 : rk = 3 := by simpa using k4
        rw [if_pos k4] at hR
        have hv1 := hin (h := ra) (by omega) (by omega) fr to
        have hv2 := valueV_ok hv1 o2
        obtain ⟨⟨vc, vs⟩, hv⟩ : ∃ v, valueV ⟨cn, cs, cl⟩ own fr to ra fr to = v := ⟨_, rfl⟩
        rw [hv] at hv2 hR
        refine SatD.regSeq hΓ follows [6, 14, 15, 16, 18, 4] ?_
        simp [d46r14, and_assoc, hv1, hv]
        refine SatD.le (Le.keep (o := [(1015, .box [.v (ti 0), .v (ti 0), .v (ti 0), .v (ti 0)]), (1417, .box [.v (ti xc), .v (ti xs), .v (ti xr), .v (ti xg)])]) (l := [(4, .v (ti fr)), (6, .v (ti i)), (14, .ptr 1015 0), (15, .v (.box [ti rk, ti rh, ti ra, ti rb, ti rp, ti rg])), (16, .ptr 1417 0), (18, .v (.box [ti vc, ti vs]))]) (nxt' := 2200) ?_ ?_ ?_ ?_) ?_
        · simp
        · simp
        · simp
        · simp
        refine SatD.reg hΓ follows [14, 16] ?_
        simp [d46r15, and_assoc, hv2, chunk]
        refine ⟨by omega, by omega, ?_⟩
        refine SatD.regSeq hΓ follows [14] ?_
        simp [d46r22]
        refine SatD.ret ?_
        subst hR
        simp [d46res, Cell.enc]
      · have k4 : ¬ rk = 3 := by simpa using k4
        rw [if_neg k4] at hR
        refine SatD.regSeq hΓ follows [3, 4, 5, 6, 9, 14, 15, 16, 19] ?_
        simp [d46r16]
        refine SatD.block ?_
        refine SatD.loop (fun y : Nat => ⟨DM.look [(3, .v (.sl (cellsT own))), (4, .v (ti fr)), (5, .v (ti to)), (6, .v (ti i)), (9, .v (.box [ti cn, ti cs, .sl (cellsT cl)])), (14, .ptr 1015 0), (15, .v (.box [ti rk, ti rh, ti ra, ti rb, ti rp, ti rg])), (16, .ptr 1417 0), (19, .v (ti ((fr + y : Nat) : Int)))], obs [(1015, .box [.v (ti 0), .v (ti 0), .v (ti 0), .v (ti 0)]), (1417, .box [.v (ti ((List.range y).foldl (stepB ⟨rk, rh, ra, rb, rp, rg⟩ ⟨cn, cs, cl⟩ own fr to i) ⟨xc, xs, xr, xg⟩).cost), .v (ti ((List.range y).foldl (stepB ⟨rk, rh, ra, rb, rp, rg⟩ ⟨cn, cs, cl⟩ own fr to i) ⟨xc, xs, xr, xg⟩).size), .v (ti ((List.range y).foldl (stepB ⟨rk, rh, ra, rb, rp, rg⟩ ⟨cn, cs, cl⟩ own fr to i) ⟨xc, xs, xr, xg⟩).rule), .v (ti ((List.range y).foldl (stepB ⟨rk, rh, ra, rb, rp, rg⟩ ⟨cn, cs, cl⟩ own fr to i) ⟨xc, xs, xr, xg⟩).arg)])], 3000, 1000, []⟩)
          (fun y => fr + y ≤ to + 1) (fun y => to + 1 - (fr + y)) 0 (Le.keep ?_ ?_ ?_ ?_) (by omega) (fun y hy => ?_)
        · simp
        · simp
        · simp
        · simp
        obtain ⟨X, hX⟩ : ∃ X, ((List.range y).foldl (stepB ⟨rk, rh, ra, rb, rp, rg⟩ ⟨cn, cs, cl⟩ own fr to i) ⟨xc, xs, xr, xg⟩) = X := ⟨_, rfl⟩
        rw [hX]
        obtain ⟨m, hm⟩ : ∃ m, fr + y = m := ⟨_, rfl⟩
        rw [hm]
        refine SatD.seq ?_
        refine SatD.regSeq hΓ follows [3, 4, 5, 6, 9, 14, 15, 16, 19, 37] ?_
        simp [d46r17]
        refine SatD.cond rfl (fun k5 => ?_) (fun k5 => ?_)
        · have k5 : m ≤ to := by simp at k5; omega
          refine SatD.skip ?_
          simp
          refine SatD.seq ?_
          refine SatD.block ?_
          have hu1 := hin (h := ra) (by omega) (by omega) fr m
          have hu2 := valueV_ok hu1 o2
          obtain ⟨⟨uc, us⟩, hu⟩ : ∃ v, valueV ⟨cn, cs, cl⟩ own fr to ra fr m = v := ⟨_, rfl⟩
          rw [hu] at hu2
          refine SatD.regSeq hΓ follows [3, 4, 5, 6, 9, 14, 15, 16, 19, 20] ?_
          simp [d46r18, and_assoc, hu1, hu]
          refine SatD.le (Le.keep (o := [(1015, .box [.v (ti 0), .v (ti 0), .v (ti 0), .v (ti 0)]), (1417, .box [.v (ti X.cost), .v (ti X.size), .v (ti X.rule), .v (ti X.arg)])]) (l := [(3, .v (.sl (cellsT own))), (4, .v (ti fr)), (5, .v (ti to)), (6, .v (ti i)), (9, .v (.box [ti cn, ti cs, .sl (cellsT cl)])), (14, .ptr 1015 0), (15, .v (.box [ti rk, ti rh, ti ra, ti rb, ti rp, ti rg])), (16, .ptr 1417 0), (19, .v (ti m)), (20, .v (.box [ti uc, ti us]))]) (nxt' := 3200) ?_ ?_ ?_ ?_) ?_
          · simp
          · simp
          · simp
          · simp
          have hv1 := hin (h := rb) (by omega) (by omega) m to
          have hv2 := valueV_ok hv1 o2
          obtain ⟨⟨vc, vs⟩, hv⟩ : ∃ v, valueV ⟨cn, cs, cl⟩ own fr to rb m to = v := ⟨_, rfl⟩
          rw [hv] at hv2
          refine SatD.regSeq hΓ follows [3, 4, 5, 6, 9, 14, 15, 16, 19, 20, 21] ?_
          simp [d46r19, and_assoc, hv1, hv]
          refine SatD.le (Le.keep (o := [(1015, .box [.v (ti 0), .v (ti 0), .v (ti 0), .v (ti 0)]), (1417, .box [.v (ti X.cost), .v (ti X.size), .v (ti X.rule), .v (ti X.arg)])]) (l := [(3, .v (.sl (cellsT own))), (4, .v (ti fr)), (5, .v (ti to)), (6, .v (ti i)), (9, .v (.box [ti cn, ti cs, .sl (cellsT cl)])), (14, .ptr 1015 0), (15, .v (.box [ti rk, ti rh, ti ra, ti rb, ti rp, ti rg])), (16, .ptr 1417 0), (19, .v (ti m)), (20, .v (.box [ti uc, ti us])), (21, .v (.box [ti vc, ti vs]))]) (nxt' := 3400) ?_ ?_ ?_ ?_) ?_
          · simp
          · simp
          · simp
          · simp
          have hm2 : (fr : Int) + y = m := by omega
          have hst : stepB ⟨rk, rh, ra, rb, rp, rg⟩ ⟨cn, cs, cl⟩ own fr to i X y = betterC X (comb rp [⟨uc, us⟩, ⟨vc, vs⟩]) i m := by unfold stepB; simp only [hm2, hu, hv]
          refine SatD.reg hΓ follows [3, 4, 5, 6, 9, 14, 15, 16, 19] ?_
          simp [d46r20, and_assoc, hu2, hv2, chunk]
          refine ⟨by omega, by omega, ?_⟩
          refine SatD.reg hΓ follows [3, 4, 5, 6, 9, 14, 15, 16, 19] ?_
          simp [d46r21]
          rw [wrap_id (x := (m : Int) + 1) (by omega)]
          refine ⟨y + 1, Le.keep ?_ ?_ ?_ ?_, by omega, by omega⟩
          · simp
          · simp
          · simp [List.range_succ, List.foldl_append, hX, hst]
          · simp
            omega
        · have k5 : y = (to - fr + 1 : Int).toNat := by simp at k5; omega
          subst k5
          rw [hX] at hR
          refine SatD.exit ?_
          simp
          refine SatD.regSeq hΓ follows [14] ?_
          simp [d46r22]
          refine SatD.ret ?_
          subst hR
          simp [d46res, Cell.enc]
end Inc
end Go.Proofs
/- The reference chart: the cells of a span. Conditions: none. -/
namespace Go.Proofs
namespace Inc
open Go.DM
set_option linter.unusedSimpArgs false
set_option linter.unusedVariables false

def cellOk (x : Cell) : Prop := okV x.val ∧ -1 ≤ x.rule ∧ x.rule ≤ 600 ∧ 0 ≤ x.arg ∧ x.arg ≤ 10000000000
def measC (x : Cell) : Nat := ((x.cost.toNat * 2199023255552 + x.size.toNat) * 1024 + (x.rule + 1).toNat) * 17179869184 + x.arg.toNat
def goes (x y : Cell) : Prop := cellOk y ∧ (y = x ∨ measC y < measC x)
theorem goes_better {x : Cell} {v : Val} {r g : Int} (hx : cellOk x) (hv : okV v) (h1 : 0 ≤ r) (h2 : r ≤ 600) (h3 : 0 ≤ g) (h4 : g ≤ 10000000000) : goes x (betterC x v r g) := by
  obtain ⟨xc, xs, xr, xg⟩ := x
  obtain ⟨vc, vs⟩ := v
  obtain ⟨⟨a1, a2, a3, a4⟩, a5, a6, a7, a8⟩ := hx
  obtain ⟨b1, b2, b3, b4⟩ := hv
  simp only [Cell.val] at a1 a2 a3 a4 a5 a6 a7 a8 b1 b2 b3 b4
  unfold betterC
  split
  · exact ⟨⟨⟨a1, a2, a3, a4⟩, a5, a6, a7, a8⟩, .inl rfl⟩
  · split
    · rename_i h
      refine ⟨⟨⟨b1, b2, b3, b4⟩, by simp only; omega, by simp only; omega, by simp only; omega, by simp only; omega⟩, .inr ?_⟩
      simp only [Val.lt, Cell.val, Val.mk.injEq] at h
      simp only [measC]
      omega
    · exact ⟨⟨⟨a1, a2, a3, a4⟩, a5, a6, a7, a8⟩, .inl rfl⟩
theorem goes_refl {x : Cell} (h : cellOk x) : goes x x := ⟨h, .inl rfl⟩
theorem goes_trans {x y z : Cell} (h : goes x y) (k : goes y z) : goes x z := by
  refine ⟨k.1, ?_⟩
  rcases h.2 with rfl | h2
  · exact k.2
  · rcases k.2 with rfl | k2
    · exact .inr h2
    · exact .inr (by omega)
theorem goes_fold {f : Cell → Nat → Cell} {N : Nat} (hf : ∀ x k, k < N → cellOk x → goes x (f x k)) (x : Cell) (hx : cellOk x) : goes x ((List.range N).foldl f x) := by
  induction N with
  | zero => exact goes_refl hx
  | succ N ih =>
    rw [List.range_succ, List.foldl_append]
    have h1 := ih fun x k hk => hf x k (by omega)
    exact goes_trans h1 (hf _ N (by omega) h1.1)
theorem improve_goes {n : Normal} {l : Lattice} {c : Chart} {own : List Cell} {fr to i : Nat} (hn : nOk n) (hl : lOk l) (hc : cOk c) (ho : ownOk n own) (hi : i < n.rules.length) (hft : fr ≤ to) (htm : to ≤ 1000)
    (hx : cellOk (own.getD (n.rules.getD i default).head.toNat default)) : goes (own.getD (n.rules.getD i default).head.toNat default) (improveC n l c own fr to i) := by
  unfold improveC
  obtain ⟨r, hr⟩ : ∃ r, n.rules.getD i default = r := ⟨_, rfl⟩
  have hro : ruleOk n r := hn.2.2.2 r (by rw [← hr]; exact getD_mem hi)
  rw [hr] at hx ⊢
  obtain ⟨x, hx'⟩ : ∃ x, own.getD r.head.toNat default = x := ⟨_, rfl⟩
  rw [hx'] at hx ⊢
  obtain ⟨q1, q2, q3, q4, q5⟩ := hro
  have hi2 := hn.2.2.1
  have hvp : ∀ h f t : Int, 0 ≤ h → h < n.nonterms → okV (valueV c own fr to h f t) := fun h f t h1 h2 => valueV_ok ⟨hc, by have := ho.1; have := hn.2.1; omega, fun _ => ⟨h1, by have := ho.1; omega⟩⟩ ho.2
  unfold improveR
  split
  · split
    · exact goes_better hx (comb_ok okV_nil q3 (by omega)) (by omega) (by omega) (by omega) (by omega)
    · exact goes_refl hx
  · split
    · refine goes_fold (fun x k hk hx => ?_) x hx
      unfold stepT
      split
      · have := hl.2.2.2 (l.arcs.getD k default) (getD_mem hk)
        have := hl.2.2.1
        exact goes_better hx (comb_ok okV_nil (by omega) (by omega)) (by omega) (by omega) (by omega) (by omega)
      · exact goes_refl hx
    · split
      · refine goes_better hx (comb_ok (fun v hv => ?_) q3 (by omega)) (by omega) (by omega) (by omega) (by omega)
        simp only [List.mem_singleton] at hv
        subst hv
        exact hvp _ _ _ (by omega) (by omega)
      · refine goes_fold (fun x k hk hx => ?_) x hx
        unfold stepB
        refine goes_better hx (comb_ok (fun v hv => ?_) q3 (by omega)) (by omega) (by omega) (by omega) (by omega)
        simp only [List.mem_cons, List.not_mem_nil, or_false] at hv
        rcases hv with rfl | rfl <;> exact hvp _ _ _ (by omega) (by omega)
def measL (own : List Cell) : Nat := (own.map measC).sum
theorem measL_set {own : List Cell} {h : Nat} {y : Cell} (hh : h < own.length) (hy : measC y < measC (own.getD h default)) : measL (own.set h y) < measL own := by
  induction own generalizing h with
  | nil => simp at hh
  | cons x own ih =>
    cases h with
    | zero => simp [measL] at hy ⊢; omega
    | succ h =>
      have := ih (h := h) (by simpa using hh) (by simpa using hy)
      simp [measL] at this ⊢
      omega
/-- One rule is applied. -/
def stepS (n : Normal) (l : Lattice) (c : Chart) (fr to : Int) (own : List Cell) (k : Nat) : List Cell := own.set (n.rules.getD k default).head.toNat (improveC n l c own fr to k)
def ownC (n : Normal) (own : List Cell) : Prop := (own.length : Int) = n.nonterms ∧ ∀ x ∈ own, cellOk x
theorem ownC.ok {n : Normal} {own : List Cell} (h : ownC n own) : ownOk n own := ⟨h.1, fun x hx => (h.2 x hx).1⟩
theorem stepS_ok {n : Normal} {l : Lattice} {c : Chart} {own : List Cell} {fr to k : Nat} (hn : nOk n) (hl : lOk l) (hc : cOk c) (ho : ownC n own) (hk : k < n.rules.length) (hft : fr ≤ to) (htm : to ≤ 1000) :
    ownC n (stepS n l c fr to own k) ∧ (improveC n l c own fr to k ≠ own.getD (n.rules.getD k default).head.toNat default → measL (stepS n l c fr to own k) < measL own) := by
  have hro := hn.2.2.2 (n.rules.getD k default) (getD_mem hk)
  have hh : (n.rules.getD k default).head.toNat < own.length := by have := ho.1; have := hro.1; have := hro.2.1; omega
  have hg := improve_goes hn hl hc ho.ok hk hft htm (ho.2 _ (getD_mem hh))
  refine ⟨⟨by simpa [stepS] using ho.1, fun x hx => ?_⟩, fun hne => ?_⟩
  · rcases List.mem_or_eq_of_mem_set hx with h | rfl
    · exact ho.2 x h
    · exact hg.1
  · rcases hg.2 with h | h
    · exact absurd h hne
    · exact measL_set hh h
def fixP (n : Normal) (l : Lattice) (c : Chart) (fr to : Int) (own : List Cell) : Prop := ∀ k, k < n.rules.length → improveC n l c own fr to k = own.getD (n.rules.getD k default).head.toNat default
theorem cellsT_set (l : List Cell) (i : Nat) (x : Cell) : cellsT (l.set i x) = (cellsT l).set i x.enc := by simp [cellsT, List.map_set]
theorem cellOk_none : cellOk none4 := by simp [cellOk, okV, none4]

abbrev s46 : DM.Spec := specP (fun ts => ∃ nt nn ns rules ls arcs fin cn cs cl own, ∃ fr to i : Int, ts = [.agg [ti nt, ti nn, ti ns, .sl (rulesT rules)], .agg [ti ls, .sl (arcsT arcs), .sl (intsT fin)], .agg [ti cn, ti cs, .sl (cellsT cl)], .sl (cellsT own), ti fr, ti to, ti i] ∧
    nOk ⟨nt, nn, ns, rules⟩ ∧ lOk ⟨ls, arcs, fin⟩ ∧ cOk ⟨cn, cs, cl⟩ ∧ ownOk ⟨nt, nn, ns, rules⟩ own ∧ 0 ≤ i ∧ i < rules.length ∧ 0 ≤ fr ∧ fr ≤ to ∧ to ≤ 1000)
  (fun | [n, l, c, .sl own, .int _ fr, .int _ to, .int _ i] => .agg [ti (improveC (decN n) (decL l) (decC c) (decCells own) fr to i.toNat).cost, ti (improveC (decN n) (decL l) (decC c) (decCells own) fr to i.toNat).size, ti (improveC (decN n) (decL l) (decC c) (decCells own) fr to i.toNat).rule, ti (improveC (decN n) (decL l) (decC c) (decCells own) fr to i.toNat).arg] | _ => .bool false) true
theorem okSp : EnvOk Tryz.prog (envOf [(46, s46), (42, s42)]) := by
  refine EnvOk.cons (EnvOk.cons EnvOk.nil ?_) ?_
  · rintro ts rfl
    exact ⟨t42, fun _ => rfl⟩
  · rintro ts ⟨nt, nn, ns, rules, ls, arcs, fin, cn, cs, cl, own, fr, to, i, rfl, h1, h2, h3, h4, h5, h6, h7, h8, h9⟩
    obtain ⟨i, rfl⟩ := Int.eq_ofNat_of_zero_le h5
    obtain ⟨fr, rfl⟩ := Int.eq_ofNat_of_zero_le h7
    obtain ⟨to, rfl⟩ := Int.eq_ofNat_of_zero_le (a := to) (by omega)
    exact ⟨by simpa [Normal.enc, Lattice.enc, Chart.enc, Cell.enc] using t46 ⟨nt, nn, ns, rules⟩ ⟨ls, arcs, fin⟩ ⟨cn, cs, cl⟩ own fr to i h1 h2 h3 h4 (by simpa using h6) (by omega) (by omega), fun _ => rfl⟩
structure SM where
  own : List Cell
  more : Bool
/-- The rules ahead of y are applied, one behind another. -/
def sweepN (n : Normal) (l : Lattice) (c : Chart) (fr to : Int) (own : List Cell) (y : Nat) : List Cell := (List.range y).foldl (stepS n l c fr to) own
theorem sweepN_succ (n : Normal) (l : Lattice) (c : Chart) (fr to : Int) (own : List Cell) (y : Nat) : sweepN n l c fr to own (y + 1) = stepS n l c fr to (sweepN n l c fr to own y) y := by
  simp [sweepN, List.range_succ, List.foldl_append]
theorem set_self {own : List Cell} {h : Nat} {x : Cell} (hx : x = own.getD h default) : own.set h x = own := by
  subst hx
  apply List.ext_getElem?
  intro j
  rw [List.getElem?_set]
  split
  · rename_i e; subst e
    split
    · rename_i hl; simp [List.getD, hl]
    · rename_i hl; rw [List.getElem?_eq_none (by omega)]
  · rfl
theorem sweepN_ok {n : Normal} {l : Lattice} {c : Chart} {own : List Cell} {fr to : Nat} (hn : nOk n) (hl : lOk l) (hc : cOk c) (ho : ownC n own) (hft : fr ≤ to) (htm : to ≤ 1000) : ∀ y, y ≤ n.rules.length →
    ownC n (sweepN n l c fr to own y) ∧ ((sweepN n l c fr to own y = own ∧ ∀ k, k < y → improveC n l c own fr to k = own.getD (n.rules.getD k default).head.toNat default) ∨ measL (sweepN n l c fr to own y) < measL own)
  | 0, _ => ⟨ho, .inl ⟨rfl, fun k h => by omega⟩⟩
  | y + 1, hy => by
    obtain ⟨h1, h2⟩ := sweepN_ok hn hl hc ho hft htm y (by omega)
    obtain ⟨h3, h4⟩ := stepS_ok hn hl hc h1 (k := y) (by omega) hft htm
    rw [sweepN_succ]
    refine ⟨h3, ?_⟩
    by_cases e : improveC n l c (sweepN n l c fr to own y) fr to y = (sweepN n l c fr to own y).getD (n.rules.getD y default).head.toNat default
    · have e2 : stepS n l c fr to (sweepN n l c fr to own y) y = sweepN n l c fr to own y := set_self e
      rw [e2]
      rcases h2 with ⟨g1, g2⟩ | h2
      · refine .inl ⟨g1, fun k hk => ?_⟩
        by_cases hk2 : k = y
        · subst hk2; rwa [g1] at e
        · exact g2 k (by omega)
      · exact .inr h2
    · have := h4 e
      rcases h2 with ⟨g1, g2⟩ | h2
      · rw [g1] at this ⊢; exact .inr this
      · exact .inr (by omega)
def spanI (n : Normal) (l : Lattice) (c : Chart) (fr to : Int) : Nat → List Cell → List Cell
  | 0, own => own
  | f + 1, own => if sweepN n l c fr to own n.rules.length = own then own else spanI n l c fr to f (sweepN n l c fr to own n.rules.length)
theorem span_next {n : Normal} {l : Lattice} {c : Chart} {own : List Cell} {fr to : Int} {f : Nat} {R : List Cell} (hs : sweepN n l c fr to own n.rules.length = own ∨ measL (sweepN n l c fr to own n.rules.length) < measL own) (h1 : measL own < f) (h2 : spanI n l c fr to f own = R) :
    (sweepN n l c fr to own n.rules.length ≠ own → measL (sweepN n l c fr to own n.rules.length) < measL own ∧ ∃ f, measL (sweepN n l c fr to own n.rules.length) < f ∧ spanI n l c fr to f (sweepN n l c fr to own n.rules.length) = R) ∧ (sweepN n l c fr to own n.rules.length = own → own = R) := by
  cases f with
  | zero => omega
  | succ f =>
    unfold spanI at h2
    refine ⟨fun hne => ?_, fun e => ?_⟩
    · rw [if_neg hne] at h2
      have := hs.resolve_left hne
      exact ⟨this, f, by omega, h2⟩
    · rwa [if_pos e] at h2
def own0 (n : Normal) : List Cell := List.replicate n.nonterms.toNat none4
/-- The cells of a span. -/
def spanF (n : Normal) (l : Lattice) (c : Chart) (fr to : Int) : List Cell := spanI n l c fr to (measL (own0 n) + 1) (own0 n)
theorem own0_ok {n : Normal} (hn : nOk n) : ownC n (own0 n) := by
  refine ⟨?_, fun x hx => ?_⟩
  · have := hn.1; simp only [own0, List.length_replicate]; omega
  · rw [List.eq_of_mem_replicate hx]; exact cellOk_none
theorem spanI_ok {n : Normal} {l : Lattice} {c : Chart} {fr to : Nat} (hn : nOk n) (hl : lOk l) (hc : cOk c) (hft : fr ≤ to) (htm : to ≤ 1000)
    (P : List Cell → Prop) (hPs : ∀ own k, ownC n own → k < n.rules.length → P own → P (stepS n l c fr to own k)) : ∀ f own, measL own < f → ownC n own → P own → ownC n (spanI n l c fr to f own) ∧ P (spanI n l c fr to f own) ∧ fixP n l c fr to (spanI n l c fr to f own)
  | 0, own, h, _, _ => by omega
  | f + 1, own, h, ho, hp => by
    obtain ⟨h1, h2⟩ := sweepN_ok hn hl hc ho hft htm n.rules.length (Nat.le_refl _)
    have hpw : ∀ y, y ≤ n.rules.length → P (sweepN n l c fr to own y) := by
      intro y
      induction y with
      | zero => intro _; exact hp
      | succ y ih => intro hy; rw [sweepN_succ]; exact hPs _ _ (sweepN_ok hn hl hc ho hft htm y (by omega)).1 (by omega) (ih (by omega))
    unfold spanI
    split
    · rename_i e
      rcases h2 with ⟨_, g⟩ | h2
      · exact ⟨ho, hp, g⟩
      · rw [e] at h2; omega
    · rename_i e
      rcases h2 with ⟨g, _⟩ | h2
      · exact absurd g e
      · exact spanI_ok hn hl hc hft htm P hPs f _ (by omega) h1 (hpw _ (Nat.le_refl _))
theorem spanF_ok {n : Normal} {l : Lattice} {c : Chart} {fr to : Nat} (hn : nOk n) (hl : lOk l) (hc : cOk c) (hft : fr ≤ to) (htm : to ≤ 1000)
    (P : List Cell → Prop) (hP0 : P (own0 n)) (hPs : ∀ own k, ownC n own → k < n.rules.length → P own → P (stepS n l c fr to own k)) : ownC n (spanF n l c fr to) ∧ P (spanF n l c fr to) ∧ fixP n l c fr to (spanF n l c fr to) :=
  spanI_ok hn hl hc hft htm P hPs _ _ (by omega) (own0_ok hn) hP0
set_option maxRecDepth 20000 in
set_option maxHeartbeats 8000000 in
theorem t24 (n : Normal) (l : Lattice) (c : Chart) (fr to : Nat) (hn : nOk n) (hl : lOk l) (hc : cOk c) (hft : fr ≤ to) (htm : to ≤ 1000) : CallsF Tryz.prog 24 [n.enc, l.enc, c.enc, ti fr, ti to] 57 4 (cellsT (spanF n l c fr to)) := by
  obtain ⟨R, hR⟩ : ∃ R, spanF n l c fr to = R := ⟨_, rfl⟩
  rw [hR]
  obtain ⟨nt, nn, ns, rules⟩ := n
  obtain ⟨ls, arcs, fin⟩ := l
  obtain ⟨cn, cs, cl⟩ := c
  have hΓ := okSp
  have h00 := own0_ok hn
  have hsw := fun (own : List Cell) (ho : ownC ⟨nt, nn, ns, rules⟩ own) => sweepN_ok hn hl hc ho hft htm
  have hss := fun (own : List Cell) (ho : ownC ⟨nt, nn, ns, rules⟩ own) (k : Nat) (hk : k < rules.length) => stepS_ok hn hl hc ho (k := k) hk hft htm
  have hrl : rules.length ≤ 600 := hn.2.2.1
  have hn1 : 1 ≤ nn := hn.1
  have hn2 : nn ≤ 1000 := hn.2.1
  refine c24.okF (by simp) (initSt_sat ?_)
  simp [Normal.enc, Lattice.enc, Chart.enc]
  refine SatD.regSeq hΓ follows [3, 4, 5, 6, 7] ?_
  simp [d24r0]
  refine SatD.le (Le.keep (o := []) (l := [(3, .v (ti fr)), (4, .v (ti to)), (5, .v (.box [ti nt, ti nn, ti ns, .sl (rulesT rules)])), (6, .v (.box [ti ls, .sl (arcsT arcs), .sl (intsT fin)])), (7, .v (.box [ti cn, ti cs, .sl (cellsT cl)]))]) (nxt' := 1200) ?_ ?_ ?_ ?_) ?_
  · simp
  · simp
  · simp
  · simp
  refine SatD.regSeq hΓ follows [3, 4, 5, 6, 7, 11] ?_
  simp [d24r1]
  refine SatD.le (Le.keep (o := []) (l := [(3, .v (ti fr)), (4, .v (ti to)), (5, .v (.box [ti nt, ti nn, ti ns, .sl (rulesT rules)])), (6, .v (.box [ti ls, .sl (arcsT arcs), .sl (intsT fin)])), (7, .v (.box [ti cn, ti cs, .sl (cellsT cl)])), (11, .nil0)]) (nxt' := 1400) ?_ ?_ ?_ ?_) ?_
  · simp
  · simp
  · simp
  · simp
  refine SatD.le (Le.nilSlot (k := 11) 57 (sz := 4) (by omega) (by simp)) ?_
  rw [obs_setO]
  refine SatD.seq ?_
  refine SatD.regSeq hΓ follows [3, 4, 5, 6, 7, 11, 12] ?_
  simp [d24r2]
  refine SatD.block ?_
  refine SatD.loop (fun y : Nat => ⟨DM.look [(3, .v (ti fr)), (4, .v (ti to)), (5, .v (.box [ti nt, ti nn, ti ns, .sl (rulesT rules)])), (6, .v (.box [ti ls, .sl (arcsT arcs), .sl (intsT fin)])), (7, .v (.box [ti cn, ti cs, .sl (cellsT cl)])), (11, .aref 1400 0), (12, .v (ti y))], obs [(1400, .arr 0 57 4 (cellsT (List.replicate y none4)))], 1600, 1000, []⟩)
    (fun y => (y : Int) ≤ nn) (fun y => nn.toNat - y) 0 (Le.keep ?_ ?_ ?_ ?_) (by omega) (fun y hy => ?_)
  · simp
  · simp
  · simp
  · simp
  refine SatD.seq ?_
  refine SatD.regSeq hΓ follows [3, 4, 5, 6, 7, 11, 12, 19] ?_
  simp [d24r3]
  refine SatD.cond rfl (fun hcc => ?_) (fun hcc => ?_)
  · have hcc : (y : Int) < nn := by simpa using hcc
    refine SatD.skip ?_
    simp
    refine SatD.seq ?_
    refine SatD.block ?_
    refine SatD.reg hΓ follows [3, 4, 5, 6, 7, 11, 12] ?_
    simp [d24r4, roomOk, chunk]
    refine ⟨by omega, ?_⟩
    refine SatD.reg hΓ follows [3, 4, 5, 6, 7, 11, 12] ?_
    simp [d24r5]
    rw [wrap_id (x := (y : Int) + 1) (by omega)]
    refine ⟨y + 1, Le.keep ?_ ?_ ?_ ?_, by omega, by omega⟩
    · simp
    · simp
    · simp [List.replicate_succ', cellsT, none4, Cell.enc]
    · simp
  · have hy2 : y = nn.toNat := by simp at hcc; omega
    subst hy2
    refine SatD.exit ?_
    simp
    refine SatD.seq ?_
    refine SatD.regSeq hΓ follows [3, 4, 5, 6, 7, 11, 13] ?_
    simp [d24r6]
    refine SatD.block ?_
    refine SatD.loop (fun z : SM => ⟨DM.look [(3, .v (ti fr)), (4, .v (ti to)), (5, .v (.box [ti nt, ti nn, ti ns, .sl (rulesT rules)])), (6, .v (.box [ti ls, .sl (arcsT arcs), .sl (intsT fin)])), (7, .v (.box [ti cn, ti cs, .sl (cellsT cl)])), (11, .aref 1400 0), (13, .v (.bool z.more))], obs [(1400, .arr 0 57 4 (cellsT z.own))], 3000, 1000, []⟩)
      (fun z => ownC ⟨nt, nn, ns, rules⟩ z.own ∧ (z.more = true → ∃ f, measL z.own < f ∧ spanI ⟨nt, nn, ns, rules⟩ ⟨ls, arcs, fin⟩ ⟨cn, cs, cl⟩ fr to f z.own = R) ∧ (z.more = false → z.own = R)) (fun z => 2 * measL z.own + (if z.more then 1 else 0)) ⟨own0 ⟨nt, nn, ns, rules⟩, true⟩ (Le.keep ?_ ?_ ?_ ?_) (⟨h00, fun _ => ⟨_, Nat.lt_succ_self _, hR⟩, fun h => by cases h⟩) (fun z hy => ?_)
    · simp
    · simp
    · simp [own0]
    · simp
    obtain ⟨own, more⟩ := z
    obtain ⟨hz1, hz2, hz3⟩ := hy
    simp only at hz1 hz2 hz3 ⊢
    refine SatD.seq ?_
    refine SatD.regSeq hΓ follows [3, 4, 5, 6, 7, 11, 26] ?_
    simp [d24r7]
    refine SatD.cond rfl (fun hm => ?_) (fun hm => ?_)
    · have hm : more = true := by simpa using hm
      subst hm
      obtain ⟨f, hf1, hf2⟩ := hz2 rfl
      refine SatD.skip ?_
      simp
      refine SatD.block ?_
      refine SatD.regSeq hΓ follows [3, 4, 5, 6, 7, 11, 13] ?_
      simp [d24r8]
      refine SatD.regSeq hΓ follows [3, 4, 5, 6, 7, 11, 13, 14] ?_
      simp [d24r9]
      refine SatD.block ?_
      refine SatD.loop (fun y : Nat => ⟨DM.look [(3, .v (ti fr)), (4, .v (ti to)), (5, .v (.box [ti nt, ti nn, ti ns, .sl (rulesT rules)])), (6, .v (.box [ti ls, .sl (arcsT arcs), .sl (intsT fin)])), (7, .v (.box [ti cn, ti cs, .sl (cellsT cl)])), (11, .aref 1400 0), (13, .v (.bool (decide (sweepN ⟨nt, nn, ns, rules⟩ ⟨ls, arcs, fin⟩ ⟨cn, cs, cl⟩ fr to own y ≠ own)))), (14, .v (ti y))], obs [(1400, .arr 0 57 4 (cellsT (sweepN ⟨nt, nn, ns, rules⟩ ⟨ls, arcs, fin⟩ ⟨cn, cs, cl⟩ fr to own y)))], 4000, 1000, []⟩)
        (fun y => y ≤ rules.length) (fun y => rules.length - y) 0 (Le.keep ?_ ?_ ?_ ?_) (by simp) (fun y hy3 => ?_)
      · simp
      · simp [sweepN]
      · simp [sweepN]
      · simp [sweepN]
      obtain ⟨O, hO⟩ : ∃ O, sweepN ⟨nt, nn, ns, rules⟩ ⟨ls, arcs, fin⟩ ⟨cn, cs, cl⟩ fr to own y = O := ⟨_, rfl⟩
      obtain ⟨hO1, hO2⟩ := hsw own hz1 y hy3
      rw [hO] at hO1 hO2
      obtain ⟨m1, hm1⟩ : ∃ m1 : Bool, decide (O ≠ own) = m1 := ⟨_, rfl⟩
      rw [hO, hm1]
      refine SatD.seq ?_
      refine SatD.regSeq hΓ follows [3, 4, 5, 6, 7, 11, 13, 14, 31] ?_
      simp [d24r10]
      refine SatD.cond rfl (fun hcc => ?_) (fun hcc => ?_)
      · have hcc : y < rules.length := by simpa using hcc
        refine SatD.skip ?_
        simp
        refine SatD.seq ?_
        refine SatD.block ?_
        obtain ⟨r, hr⟩ : ∃ r, rules.getD y default = r := ⟨_, rfl⟩
        have hro : ruleOk ⟨nt, nn, ns, rules⟩ r := hn.2.2.2 r (by rw [← hr]; exact getD_mem hcc)
        have rr := rowAt_rules hcc
        rw [hr] at rr
        obtain ⟨⟨ic, iz, ir, ig⟩, hI⟩ : ∃ q, improveC ⟨nt, nn, ns, rules⟩ ⟨ls, arcs, fin⟩ ⟨cn, cs, cl⟩ O fr to y = q := ⟨_, rfl⟩
        refine SatD.regSeq hΓ follows [3, 4, 5, 6, 7, 11, 13, 14, 15] ?_
        simp [d24r11, and_assoc, hn, hl, hc, hO1.ok, hI]
        refine ⟨by omega, by omega, by omega, ?_⟩
        refine SatD.le (Le.keep (o := [(1400, .arr 0 57 4 (cellsT O))]) (l := [(3, .v (ti fr)), (4, .v (ti to)), (5, .v (.box [ti nt, ti nn, ti ns, .sl (rulesT rules)])), (6, .v (.box [ti ls, .sl (arcsT arcs), .sl (intsT fin)])), (7, .v (.box [ti cn, ti cs, .sl (cellsT cl)])), (11, .aref 1400 0), (13, .v (.bool m1)), (14, .v (ti y)), (15, .v (.box [ti ic, ti iz, ti ir, ti ig]))]) (nxt' := 4400) ?_ ?_ ?_ ?_) ?_
        · simp
        · simp
        · simp
        · simp
        obtain ⟨rk, rh, ra, rb, rp, rg⟩ := r
        obtain ⟨q1, q2, q3, q4, q5⟩ := hro
        simp only at q1 q2
        obtain ⟨rh, rfl⟩ := Int.eq_ofNat_of_zero_le q1
        have hhl : rh < O.length := by have := hO1.1; simp only at this; omega
        have rx := rowAt_cells hhl
        obtain ⟨⟨xc, xs, xr, xg⟩, hx⟩ : ∃ x, O.getD rh default = x := ⟨_, rfl⟩
        rw [hx] at rx
        obtain ⟨c1, hc1⟩ : ∃ c1 : Bool, decide ((⟨ic, iz, ir, ig⟩ : Cell) ≠ ⟨xc, xs, xr, xg⟩) = c1 := ⟨_, rfl⟩
        refine SatD.regToS hΓ follows [(3, .v (ti fr)), (4, .v (ti to)), (5, .v (.box [ti nt, ti nn, ti ns, .sl (rulesT rules)])), (6, .v (.box [ti ls, .sl (arcsT arcs), .sl (intsT fin)])), (7, .v (.box [ti cn, ti cs, .sl (cellsT cl)])), (11, .aref 1400 0), (13, .v (.bool m1)), (14, .v (ti y)), (15, .v (.box [ti ic, ti iz, ti ir, ti ig])), (52, .v (.bool c1))] ?_ ?_
        · simp [d24r12, hcc, rr, Rule.enc, hhl, rx, Cell.enc]
          simp at hc1
          exact hc1
        refine SatD.cond rfl (fun h5 => ?_) (fun h5 => ?_)
        · rw [h5] at hc1
          have hc1 := of_decide_eq_true hc1
          have hst : stepS ⟨nt, nn, ns, rules⟩ ⟨ls, arcs, fin⟩ ⟨cn, cs, cl⟩ fr to O y = O.set rh ⟨ic, iz, ir, ig⟩ := by unfold stepS; simp only [hI, hr, Int.toNat_natCast]
          have hS1 : sweepN ⟨nt, nn, ns, rules⟩ ⟨ls, arcs, fin⟩ ⟨cn, cs, cl⟩ fr to own (y + 1) = O.set rh ⟨ic, iz, ir, ig⟩ := by rw [sweepN_succ, hO, hst]
          have hne : ¬ sweepN ⟨nt, nn, ns, rules⟩ ⟨ls, arcs, fin⟩ ⟨cn, cs, cl⟩ fr to own (y + 1) = own := by
            intro e
            have h4 := (hss O hO1 y hcc).2 (by simp only [hI, hr, Int.toNat_natCast, hx]; exact hc1)
            rw [hst, ← hS1, e] at h4
            rcases hO2 with h | h
            · rw [h.1] at h4; omega
            · omega
          refine SatD.reg hΓ follows [3, 4, 5, 6, 7, 11, 13, 14] ?_
          simp [d24r13, hcc, rr, Rule.enc, hhl, rx, Cell.enc]
          refine SatD.reg hΓ follows [3, 4, 5, 6, 7, 11, 13, 14] ?_
          simp [d24r14]
          rw [wrap_id (x := (y : Int) + 1) (by omega)]
          refine ⟨y + 1, Le.keep ?_ ?_ ?_ ?_, by omega, by omega⟩
          · simp
          · simp
          · simp [hS1, cellsT_set, Cell.enc]
          · simp
            simpa using hne
        · rw [h5] at hc1
          have hc1 := Classical.not_not.1 (of_decide_eq_false hc1)
          have hS1 : sweepN ⟨nt, nn, ns, rules⟩ ⟨ls, arcs, fin⟩ ⟨cn, cs, cl⟩ fr to own (y + 1) = O := by rw [sweepN_succ, hO]; unfold stepS; simp only [hI, hr, Int.toNat_natCast]; exact set_self (by rw [hx]; exact hc1)
          have hne := hm1
          rw [← hS1] at hne
          refine SatD.skip ?_
          simp
          refine SatD.reg hΓ follows [3, 4, 5, 6, 7, 11, 13, 14] ?_
          simp [d24r14]
          rw [wrap_id (x := (y : Int) + 1) (by omega)]
          refine ⟨y + 1, Le.keep ?_ ?_ ?_ ?_, by omega, by omega⟩
          · simp
          · simp
          · simp [hS1, cellsT_set, Cell.enc]
          · simp
            simpa using hne
      · have hy4 : y = rules.length := by simp at hcc; omega
        subst hy4
        have hnx := span_next ((hsw own hz1 _ (Nat.le_refl _)).2.imp And.left id) hf1 hf2
        simp only [hO] at hnx
        have hdec : 2 * measL O + (if m1 then 1 else 0) < 2 * measL own + 1 := by
          by_cases e : O = own
          · have hm2 : m1 = false := by rw [← hm1]; simp [e]
            subst hm2; rw [e]; simp
          · have := (hnx.1 e).1
            cases m1 <;> simp <;> omega
        refine SatD.exit ?_
        simp
        refine ⟨⟨O, m1⟩, Le.keep ?_ ?_ ?_ ?_, ⟨hO1, fun h => (hnx.1 (of_decide_eq_true (hm1.trans h))).2, fun h => by have e := Classical.not_not.1 (of_decide_eq_false (hm1.trans h)); simp only; rw [e]; exact hnx.2 e⟩, by simpa using hdec⟩
        · simp
        · simp
        · simp
        · simp
    · have hm : more = false := by simpa using hm
      subst hm
      have hz3 := hz3 rfl
      subst hz3
      refine SatD.exit ?_
      simp
      refine SatD.regSeq hΓ follows [10] ?_
      simp [d24r15]
      refine SatD.ret ?_
      exact .inr ⟨1400, 0, by simp, by simp⟩
end Inc
end Go.Proofs
/- The reference chart: Build. Conditions: none. -/
namespace Go.Proofs
namespace Inc
open Go.DM
set_option linter.unusedSimpArgs false
set_option linter.unusedVariables false

theorem scalar_cells (l : List Cell) : scalarT.scalarTs (cellsT l).flatten = true := by
  induction l with
  | nil => rfl
  | cons x l ih => simpa [cellsT, Cell.enc, scalarT.scalarTs, scalarT] using ih
theorem pre_mono {st : Int} {f k : Nat} (h : (k : Int) ≤ st) (hf : f ≤ k) : pre st f ≤ pre st k := by
  induction k with
  | zero => obtain rfl : f = 0 := by omega
            omega
  | succ k ih =>
    by_cases e : f = k + 1
    · subst e; omega
    · have := ih (by omega) (by omega)
      simp only [pre]; omega
theorem pre_two (st : Int) : ∀ n : Nat, 2 * pre st n = n * (2 * st - n + 1)
  | 0 => by simp [pre]
  | n + 1 => by
    have := pre_two st n
    simp only [pre]
    have e : 2 * (pre st n + st - n) = 2 * pre st n + 2 * st - 2 * n := by omega
    rw [e, this]
    push_cast
    grind
theorem count_pre {nn st : Int} (h : 0 ≤ st) : countI nn st = nn * pre st st.toNat := by
  unfold countI
  have h2 := pre_two st st.toNat
  rw [show ((st.toNat : Nat) : Int) = st by omega] at h2
  have e : nn * st * (st + 1) = 2 * (nn * pre st st.toNat) := by grind
  rw [e]
  omega
theorem index_lt {nn st : Int} {f t : Nat} (h1 : 0 < nn) (h3 : (t : Int) < st) (h4 : f ≤ t) {i : Int} (hi : i < nn) : indexI nn st f t + i < countI nn st := by
  rw [count_pre (by omega)]
  have h5 := pre_mono (st := st) (f := f + 1) (k := st.toNat) (by omega) (by omega)
  simp only [pre] at h5
  have h6 : (pre st f + t - f + 1) * nn ≤ pre st st.toNat * nn := Int.mul_le_mul_of_nonneg_right (by omega) (by omega)
  unfold indexI
  rw [Int.mul_comm nn]
  have : (pre st f + t - f + 1) * nn = (pre st f + t - f) * nn + nn := by grind
  omega
/-- The cells of a span are put in their places: the first y of them. -/
def putN (cells own : List Cell) (at' : Nat) (y : Nat) : List Cell := (List.range y).foldl (fun cs i => cs.set (at' + i) (own.getD i default)) cells
theorem putN_succ (cells own : List Cell) (at' y : Nat) : putN cells own at' (y + 1) = (putN cells own at' y).set (at' + y) (own.getD y default) := by simp [putN, List.range_succ, List.foldl_append]
@[simp] theorem putN_len (cells own : List Cell) (at' y : Nat) : (putN cells own at' y).length = cells.length := by
  induction y with
  | zero => rfl
  | succ y ih => rw [putN_succ, List.length_set, ih]
theorem putN_mem {cells own : List Cell} {at' y : Nat} {x : Cell} (h : x ∈ putN cells own at' y) (hy : y ≤ own.length) : x ∈ cells ∨ x ∈ own := by
  induction y with
  | zero => exact .inl h
  | succ y ih =>
    rw [putN_succ] at h
    rcases List.mem_or_eq_of_mem_set h with h | rfl
    · exact ih h (by omega)
    · exact .inr (getD_mem (by omega))
def stepL (n : Normal) (l : Lattice) (len : Nat) (cells : List Cell) (f : Nat) : List Cell :=
  putN cells (spanF n l ⟨n.nonterms, l.states, cells⟩ f ((f : Int) + len)) (indexI n.nonterms l.states f (f + len)).toNat n.nonterms.toNat
def rowL (n : Normal) (l : Lattice) (cells : List Cell) (len : Nat) : List Cell := (List.range (l.states.toNat - len)).foldl (stepL n l len) cells
def buildL (n : Normal) (l : Lattice) : List Cell := (List.range l.states.toNat).foldl (rowL n l) (List.replicate (countI n.nonterms l.states).toNat ⟨0, 0, 0, 0⟩)
def buildC (n : Normal) (l : Lattice) : Chart := ⟨n.nonterms, l.states, buildL n l⟩

abbrev s23 : DM.Spec := specP (fun ts => ∃ n s : Int, ts = [ti n, ti s] ∧ 0 ≤ n ∧ n ≤ 1000000 ∧ 0 ≤ s ∧ s ≤ 1000000) (fun | [.int _ n, .int _ s] => ti (countI n s) | _ => .bool false) true
abbrev s24 : DM.Spec := specL (fun ts => ∃ nt nn ns rules ls arcs fin cn cs cl, ∃ fr to : Int, ts = [.agg [ti nt, ti nn, ti ns, .sl (rulesT rules)], .agg [ti ls, .sl (arcsT arcs), .sl (intsT fin)], .agg [ti cn, ti cs, .sl (cellsT cl)], ti fr, ti to] ∧
    nOk ⟨nt, nn, ns, rules⟩ ∧ lOk ⟨ls, arcs, fin⟩ ∧ cOk ⟨cn, cs, cl⟩ ∧ 0 ≤ fr ∧ fr ≤ to ∧ to ≤ 1000)
  (fun | [n, l, c, .int _ fr, .int _ to] => cellsT (spanF (decN n) (decL l) (decC c) fr to) | _ => []) 57 4
theorem okB : EnvOk Tryz.prog (envOf [(24, s24), (23, s23), (25, s25)]) := by
  refine EnvOk.consL (EnvOk.cons (EnvOk.cons EnvOk.nil ?_) ?_) ?_
  · rintro ts ⟨n, st, f, t, rfl, h1, h2, h3, h4, h5, h6, h7⟩
    obtain ⟨f, rfl⟩ := Int.eq_ofNat_of_zero_le h4
    obtain ⟨t, rfl⟩ := Int.eq_ofNat_of_zero_le (a := t) (by omega)
    exact ⟨by simpa using t25 n st f t h1 h2 h3 h5 (by omega) (by omega), fun _ => rfl⟩
  · rintro ts ⟨n, s, rfl, h1, h2, h3, h4⟩
    exact ⟨by simpa using t23 n s h1 h2 h3 h4, fun _ => rfl⟩
  · rintro ts ⟨nt, nn, ns, rules, ls, arcs, fin, cn, cs, cl, fr, to, rfl, h1, h2, h3, h4, h5, h6⟩
    obtain ⟨fr, rfl⟩ := Int.eq_ofNat_of_zero_le h4
    obtain ⟨to, rfl⟩ := Int.eq_ofNat_of_zero_le (a := to) (by omega)
    exact ⟨by simpa [Normal.enc, Lattice.enc, Chart.enc] using t24 ⟨nt, nn, ns, rules⟩ ⟨ls, arcs, fin⟩ ⟨cn, cs, cl⟩ fr to h1 h2 h3 (by omega) (by omega), scalar_cells _⟩
theorem span_own {n : Normal} {l : Lattice} {c : Chart} {fr to : Nat} (hn : nOk n) (hl : lOk l) (hc : cOk c) (hft : fr ≤ to) (htm : to ≤ 1000) : ownC n (spanF n l c fr to) :=
  (spanF_ok hn hl hc hft htm (fun _ => True) trivial fun _ _ _ _ _ => trivial).1
/-- The cells so far. -/
def cellsOk (n : Normal) (l : Lattice) (cells : List Cell) : Prop := (cells.length : Int) = countI n.nonterms l.states ∧ ∀ x ∈ cells, okV x.val
theorem cellsOk.ok {n : Normal} {l : Lattice} {cells : List Cell} (hn : nOk n) (hl : lOk l) (h : cellsOk n l cells) : cOk ⟨n.nonterms, l.states, cells⟩ := by
  have h1 := hn.1; have h2 := hn.2.1; have h3 := hl.1; have h4 := hl.2.1
  refine ⟨by simp only; omega, h2, by simp only; omega, h4, ?_, h.2⟩
  have := count_pre (nn := n.nonterms) (st := l.states) (by omega)
  have hb := (pre_bound h4 l.states.toNat (by omega))
  have := mul_bounds (a := n.nonterms) (A := 1000) (b := pre l.states l.states.toNat) (B := 1000000) (by omega) (by omega) hb.1 (by omega)
  have := h.1
  simp only
  omega
theorem cellsOk.step {n : Normal} {l : Lattice} {cells : List Cell} (hn : nOk n) (hl : lOk l) (h : cellsOk n l cells) {f len y : Nat} (hft : f + len ≤ 1000) (hy : y ≤ n.nonterms.toNat) (a : Nat) : cellsOk n l (putN cells (spanF n l ⟨n.nonterms, l.states, cells⟩ f ((f : Int) + len)) a y) := by
  have ho := span_own hn hl (h.ok hn hl) (fr := f) (to := f + len) (by omega) hft
  rw [show ((f + len : Nat) : Int) = (f : Int) + len by omega] at ho
  refine ⟨by rw [putN_len]; exact h.1, fun x hx => ?_⟩
  rcases putN_mem hx (by have := ho.1; omega) with hx | hx
  · exact h.2 x hx
  · exact (ho.2 x hx).1
theorem rowL_ok {n : Normal} {l : Lattice} {cells : List Cell} (hn : nOk n) (hl : lOk l) (h : cellsOk n l cells) {len : Nat} : ∀ k, (k + len : Nat) ≤ 1001 → cellsOk n l ((List.range k).foldl (stepL n l len) cells)
  | 0, _ => h
  | k + 1, hk => by
    rw [List.range_succ, List.foldl_append]
    exact (rowL_ok hn hl h k (by omega)).step hn hl (by omega) (Nat.le_refl _) _
theorem cells0 {n : Normal} {l : Lattice} (hn : nOk n) (hl : lOk l) : cellsOk n l (List.replicate (countI n.nonterms l.states).toNat ⟨0, 0, 0, 0⟩) := by
  have h4 := hl.2.1
  have hb := (pre_bound h4 l.states.toNat (by have := hl.1; omega))
  have := Int.mul_nonneg (a := n.nonterms) (by have := hn.1; omega) hb.1
  have := count_pre (nn := n.nonterms) (st := l.states) (by have := hl.1; omega)
  refine ⟨by rw [List.length_replicate]; omega, fun x hx => ?_⟩
  rw [List.eq_of_mem_replicate hx]
  simp [okV]
theorem rowsL_ok {n : Normal} {l : Lattice} (hn : nOk n) (hl : lOk l) : ∀ k : Nat, (k : Int) ≤ l.states → cellsOk n l ((List.range k).foldl (rowL n l) (List.replicate (countI n.nonterms l.states).toNat ⟨0, 0, 0, 0⟩)) := by
  intro k
  induction k with
  | zero => intro _; exact cells0 hn hl
  | succ k ih =>
    intro hk
    rw [List.range_succ, List.foldl_append]
    exact rowL_ok hn hl (ih (by omega)) _ (by have := hl.2.1; omega)
set_option maxRecDepth 20000 in
set_option maxHeartbeats 8000000 in
theorem t11 (n : Normal) (l : Lattice) (hn : nOk n) (hl : lOk l) : CallsOk Tryz.prog 11 [n.enc, l.enc] (buildC n l).enc := by
  obtain ⟨R, hR⟩ : ∃ R, buildL n l = R := ⟨_, rfl⟩
  have hRR : buildC n l = ⟨n.nonterms, l.states, R⟩ := by rw [← hR]; rfl
  rw [hRR]
  unfold buildL at hR
  have h0 := cells0 hn hl
  have hrows := rowsL_ok hn hl
  have hrow := fun cells (h : cellsOk n l cells) len => rowL_ok hn hl h (len := len)
  have hst := fun cells (h : cellsOk n l cells) f len y => h.step hn hl (f := f) (len := len) (y := y)
  have hok := fun cells (h : cellsOk n l cells) => h.ok hn hl
  obtain ⟨nt, nn, ns, rules⟩ := n
  obtain ⟨ls, arcs, fin⟩ := l
  have hΓ := okB
  have hn1 : 1 ≤ nn := hn.1
  have hn2 : nn ≤ 1000 := hn.2.1
  have hl1 : 1 ≤ ls := hl.1
  have hl2 : ls ≤ 1000 := hl.2.1
  simp only at hR h0 hrows hrow hst hok
  have hcb : 0 ≤ countI nn ls ∧ countI nn ls ≤ 1000000000 := by
    have := (hok _ h0).2.2.2.2.1
    have := h0.1
    simp only at *
    have := count_pre (nn := nn) (st := ls) (by omega)
    have hb := (pre_bound hl2 ls.toNat (by omega))
    have := mul_bounds (a := nn) (A := 1000) (b := pre ls ls.toNat) (B := 1000000) (by omega) (by omega) hb.1 (by omega)
    omega
  have hΓ := okB
  refine c11.ok (by simp) (initSt_sat ?_)
  simp [Normal.enc, Lattice.enc, Chart.enc]
  refine SatD.regSeq hΓ follows [2, 3, 4] ?_
  simp [d11r0]
  refine SatD.le (Le.keep (o := [(1005, .box [.v (ti 0), .v (ti 0), .nil0])]) (l := [(2, .v (.box [ti nt, ti nn, ti ns, .sl (rulesT rules)])), (3, .v (.box [ti ls, .sl (arcsT arcs), .sl (intsT fin)])), (4, .ptr 1005 0)]) (nxt' := 1200) ?_ ?_ ?_ ?_) ?_
  · simp
  · simp
  · simp
  · simp
  refine SatD.regSeq hΓ follows [2, 3, 4, 5] ?_
  simp [d11r1, and_assoc, roomOk]
  repeat (refine ⟨by omega, ?_⟩)
  refine SatD.le (Le.keep (o := [(1005, .box [.v (ti 0), .v (ti 0), .nil0]), (1206, .box [.v (ti nn), .v (ti ls), .aref 1221 0]), (1221, .arr 0 57 4 (cellsT ((List.replicate (countI nn ls).toNat ⟨0, 0, 0, 0⟩))))]) (l := [(2, .v (.box [ti nt, ti nn, ti ns, .sl (rulesT rules)])), (3, .v (.box [ti ls, .sl (arcsT arcs), .sl (intsT fin)])), (4, .ptr 1005 0), (5, .ptr 1206 0)]) (nxt' := 1400) ?_ ?_ ?_ ?_) ?_
  · simp
  · simp
  · simp [cellsT, Cell.enc]
  · simp
  refine SatD.seq ?_
  refine SatD.regSeq hΓ follows [2, 3, 4, 5, 6] ?_
  simp [d11r2]
  refine SatD.block ?_
  refine SatD.loop (fun a : Nat => ⟨DM.look [(2, .v (.box [ti nt, ti nn, ti ns, .sl (rulesT rules)])), (3, .v (.box [ti ls, .sl (arcsT arcs), .sl (intsT fin)])), (4, .ptr 1005 0), (5, .ptr 1206 0), (6, .v (ti a))], obs [(1005, .box [.v (ti 0), .v (ti 0), .nil0]), (1206, .box [.v (ti nn), .v (ti ls), .aref 1221 0]), (1221, .arr 0 57 4 (cellsT ((List.range a).foldl (rowL ⟨nt, nn, ns, rules⟩ ⟨ls, arcs, fin⟩) (List.replicate (countI nn ls).toNat ⟨0, 0, 0, 0⟩))))], 2000, 1000, []⟩)
    (fun a => (a : Int) ≤ ls) (fun a => ls.toNat - a) 0 (Le.keep ?_ ?_ ?_ ?_) (by omega) (fun a hy => ?_)
  · simp
  · simp
  · simp
  · simp
  obtain ⟨A, hA⟩ : ∃ A, (List.range a).foldl (rowL ⟨nt, nn, ns, rules⟩ ⟨ls, arcs, fin⟩) (List.replicate (countI nn ls).toNat ⟨0, 0, 0, 0⟩) = A := ⟨_, rfl⟩
  have hA1 := hrows a hy
  rw [hA] at hA1
  rw [hA]
  refine SatD.seq ?_
  refine SatD.regSeq hΓ follows [2, 3, 4, 5, 6, 25] ?_
  simp [d11r3]
  refine SatD.cond rfl (fun hcc => ?_) (fun hcc => ?_)
  · have hcc : (a : Int) < ls := by simpa using hcc
    refine SatD.skip ?_
    simp
    refine SatD.seq ?_
    refine SatD.block ?_
    refine SatD.regSeq hΓ follows [2, 3, 4, 5, 6, 7] ?_
    simp [d11r4]
    refine SatD.block ?_
    refine SatD.loop (fun b : Nat => ⟨DM.look [(2, .v (.box [ti nt, ti nn, ti ns, .sl (rulesT rules)])), (3, .v (.box [ti ls, .sl (arcsT arcs), .sl (intsT fin)])), (4, .ptr 1005 0), (5, .ptr 1206 0), (6, .v (ti a)), (7, .v (ti b))], obs [(1005, .box [.v (ti 0), .v (ti 0), .nil0]), (1206, .box [.v (ti nn), .v (ti ls), .aref 1221 0]), (1221, .arr 0 57 4 (cellsT ((List.range b).foldl (stepL ⟨nt, nn, ns, rules⟩ ⟨ls, arcs, fin⟩ a) A)))], 3000, 1000, []⟩)
      (fun b => (b : Int) + a ≤ ls) (fun b => ls.toNat - a - b) 0 (Le.keep ?_ ?_ ?_ ?_) (by simp; omega) (fun b hb => ?_)
    · simp
    · simp
    · simp
    · simp
    obtain ⟨B, hB⟩ : ∃ B, (List.range b).foldl (stepL ⟨nt, nn, ns, rules⟩ ⟨ls, arcs, fin⟩ a) A = B := ⟨_, rfl⟩
    have hB1 := hrow A hA1 a b (by omega)
    rw [hB] at hB1
    rw [hB]
    refine SatD.seq ?_
    refine SatD.regSeq hΓ follows [2, 3, 4, 5, 6, 7, 33] ?_
    simp [d11r5, wrap_id (x := (b : Int) + a) (by omega)]
    refine SatD.cond rfl (fun hcb2 => ?_) (fun hcb2 => ?_)
    · have hcb2 : (b : Int) + a < ls := by simpa using hcb2
      refine SatD.skip ?_
      simp
      refine SatD.seq ?_
      refine SatD.block ?_
      have w1 : IntKind.i64.wrap ((b : Int) + a) = (b : Int) + a := wrap_id (by omega)
      obtain ⟨own, hown⟩ : ∃ q, spanF ⟨nt, nn, ns, rules⟩ ⟨ls, arcs, fin⟩ ⟨nn, ls, B⟩ b ((b : Int) + a) = q := ⟨_, rfl⟩
      have hokB := hok B hB1
      have hso := span_own hn hl hokB (fr := b) (to := b + a) (by omega) (by omega)
      rw [show ((b + a : Nat) : Int) = (b : Int) + a by omega, hown] at hso
      have hol : (own.length : Int) = nn := hso.1
      refine SatD.regASeq hΓ follows (rs := d11r6S) (.inr ⟨_, rfl⟩) (by kernel_rfl) [2, 3, 4, 5, 6, 7, 8] ?_
      simp [d11r6S, and_assoc, w1, hn, hl, hokB, hown]
      repeat (refine ⟨by omega, ?_⟩)
      refine SatD.le (Le.keep (o := [(1005, .box [.v (ti 0), .v (ti 0), .nil0]), (1206, .box [.v (ti nn), .v (ti ls), .aref 1221 0]), (1221, .arr 0 57 4 (cellsT (B)))]) (l := [(2, .v (.box [ti nt, ti nn, ti ns, .sl (rulesT rules)])), (3, .v (.box [ti ls, .sl (arcsT arcs), .sl (intsT fin)])), (4, .ptr 1005 0), (5, .ptr 1206 0), (6, .v (ti a)), (7, .v (ti b)), (8, .v (.sl (cellsT own)))]) (nxt' := 3400) ?_ ?_ ?_ ?_) ?_
      · simp
      · simp
      · simp
      · simp
      obtain ⟨at1, hat⟩ : ∃ q, indexI nn ls b (b + a) = q := ⟨_, rfl⟩
      have hib := indexI_bound (n := nn) (st := ls) (f := b) (t := b + a) (by omega) hn2 hl2 (by omega) (by omega) (by omega)
      have hix := fun (i : Int) (hi : i < nn) => index_lt (nn := nn) (st := ls) (f := b) (t := b + a) (by omega) (by omega) (by omega) hi
      rw [hat] at hib hix
      obtain ⟨at1, rfl⟩ := Int.eq_ofNat_of_zero_le hib.1
      have e1 : ((b : Int) + a).toNat = b + a := by omega
      have hstp : stepL ⟨nt, nn, ns, rules⟩ ⟨ls, arcs, fin⟩ a B b = putN B own at1 own.length := by unfold stepL; simp only [hown, hat, Int.toNat_natCast]; rw [show nn.toNat = own.length by omega]
      refine SatD.regSeq hΓ follows [2, 3, 4, 5, 6, 7, 8, 9] ?_
      simp [d11r7, and_assoc, w1, e1, hat]
      repeat (refine ⟨by omega, ?_⟩)
      refine SatD.regSeq hΓ follows [2, 3, 4, 5, 6, 7, 8, 9, 10] ?_
      simp [d11r8]
      refine SatD.block ?_
      refine SatD.loop (fun y : Nat => ⟨DM.look [(2, .v (.box [ti nt, ti nn, ti ns, .sl (rulesT rules)])), (3, .v (.box [ti ls, .sl (arcsT arcs), .sl (intsT fin)])), (4, .ptr 1005 0), (5, .ptr 1206 0), (6, .v (ti a)), (7, .v (ti b)), (8, .v (.sl (cellsT own))), (9, .v (ti at1)), (10, .v (ti y))], obs [(1005, .box [.v (ti 0), .v (ti 0), .nil0]), (1206, .box [.v (ti nn), .v (ti ls), .aref 1221 0]), (1221, .arr 0 57 4 (cellsT (putN B own at1 y)))], 4000, 1000, []⟩)
        (fun y => y ≤ own.length) (fun y => own.length - y) 0 (Le.keep ?_ ?_ ?_ ?_) (by simp) (fun y hy3 => ?_)
      · simp
      · simp
      · simp [putN]
      · simp
      refine SatD.seq ?_
      refine SatD.regSeq hΓ follows [2, 3, 4, 5, 6, 7, 8, 9, 10, 56] ?_
      simp [d11r9]
      refine SatD.cond rfl (fun h9 => ?_) (fun h9 => ?_)
      · have h9 : y < own.length := by simpa using h9
        refine SatD.skip ?_
        simp
        refine SatD.seq ?_
        refine SatD.block ?_
        have ro := rowAt_cells h9
        obtain ⟨x, hx⟩ : ∃ x, own.getD y default = x := ⟨_, rfl⟩
        rw [hx] at ro
        have hbl : (B.length : Int) = countI nn ls := hB1.1
        have hlt := hix y (by omega)
        have hlt2 : at1 + y < B.length := by omega
        have rz := rowAt_cells (l := putN B own at1 y) (y := at1 + y) (by simpa using hlt2)
        rw [show ((at1 + y : Nat) : Int) = (at1 : Int) + y by omega] at rz
        have e2 : ((at1 : Int) + y).toNat = at1 + y := by omega
        have w2 : IntKind.i64.wrap ((at1 : Int) + y) = ((at1 + y : Nat) : Int) := by rw [wrap_id (by omega)]; omega
        refine SatD.reg hΓ follows [2, 3, 4, 5, 6, 7, 8, 9, 10] ?_
        simp [d11r10, w2, h9, ro, Cell.enc, hlt2, rz, e2]
        repeat (refine ⟨by omega, ?_⟩)
        refine SatD.reg hΓ follows [2, 3, 4, 5, 6, 7, 8, 9, 10] ?_
        simp [d11r11]
        rw [wrap_id (x := (y : Int) + 1) (by omega)]
        refine ⟨y + 1, Le.keep ?_ ?_ ?_ ?_, by omega, by omega⟩
        · simp
        · simp
        · simp [putN_succ, cellsT_set, -List.getD_eq_getElem?_getD, hx, Cell.enc]
        · simp
      · have hy4 : y = own.length := by simp at h9; omega
        subst hy4
        refine SatD.exit ?_
        simp
        refine SatD.reg hΓ follows [2, 3, 4, 5, 6, 7] ?_
        simp [d11r12]
        rw [wrap_id (x := (b : Int) + 1) (by omega)]
        refine ⟨b + 1, Le.keep ?_ ?_ ?_ ?_, by omega, by omega⟩
        · simp
        · simp
        · simp [List.range_succ, List.foldl_append, hB, hstp]
        · simp
    · have hy2 : b = ls.toNat - a := by simp at hcb2; omega
      subst hy2
      refine SatD.exit ?_
      simp
      refine SatD.reg hΓ follows [2, 3, 4, 5, 6] ?_
      simp [d11r13]
      rw [wrap_id (x := (a : Int) + 1) (by omega)]
      refine ⟨a + 1, Le.keep ?_ ?_ ?_ ?_, by omega, by omega⟩
      · simp
      · simp
      · simp [List.range_succ, List.foldl_append, hA, rowL, hB]
      · simp
  · have hy2 : a = ls.toNat := by simp at hcc; omega
    subst hy2
    rw [hR] at hA
    subst hA
    refine SatD.exit ?_
    simp
    refine SatD.regSeq hΓ follows [4] ?_
    simp [d11r14]
    refine SatD.ret ?_
    simp [d11res]
end Inc
end Go.Proofs
/- Derivations of items, their values, and what the cells of a chart say of them. Conditions: none. -/
namespace Go.Proofs
namespace Inc
open Go.DM
set_option linter.unusedSimpArgs false
set_option linter.unusedVariables false

/-- A derivation of the nonterminal h over the states s to t, by rule k with argument g at its top, of value v. -/
inductive DerT (n : Normal) (l : Lattice) : Int → Nat → Nat → Nat → Int → Val → Prop
  | empty {s k : Nat} {r : Rule} (hk : n.rules[k]? = some r) (h1 : r.kind = 1) (hv : (comb r.price []).cost < 1099511627776) : DerT n l r.head s s k s (comb r.price [])
  | term {s t k a : Nat} {r : Rule} {x : Arc} (hk : n.rules[k]? = some r) (h1 : r.kind = 2) (ha : l.arcs[a]? = some x) (h2 : x.f = s) (h3 : x.t = t) (h4 : x.term = r.a)
      (hv : (comb (r.price + x.cost) []).cost < 1099511627776) : DerT n l r.head s t k a (comb (r.price + x.cost) [])
  | unary {s t k k1 : Nat} {g1 : Int} {r : Rule} {v : Val} (hk : n.rules[k]? = some r) (h1 : r.kind = 3) (d : DerT n l r.a s t k1 g1 v) (hv : (comb r.price [v]).cost < 1099511627776) : DerT n l r.head s t k s (comb r.price [v])
  | binary {s m t k k1 k2 : Nat} {g1 g2 : Int} {r : Rule} {v w : Val} (hk : n.rules[k]? = some r) (h1 : r.kind = 4) (hs : s ≤ m) (ht : m ≤ t) (d1 : DerT n l r.a s m k1 g1 v) (d2 : DerT n l r.b m t k2 g2 w)
      (hv : (comb r.price [v, w]).cost < 1099511627776) : DerT n l r.head s t k m (comb r.price [v, w])
def Der (n : Normal) (l : Lattice) (h : Int) (s t : Nat) (v : Val) : Prop := ∃ k g, DerT n l h s t k g v
/-- Lexicographic order of rule and argument. -/
def lexLe (k : Int) (g : Int) (k' : Int) (g' : Int) : Prop := k < k' ∨ (k = k' ∧ g ≤ g')
structure Good (n : Normal) (l : Lattice) (h : Int) (s t : Nat) (x : Cell) : Prop where
  least : ∀ v, Der n l h s t v → ¬ v.lt x.val
  top : x = none4 ∨ ((∃ k : Nat, x.rule = k ∧ DerT n l h s t k x.arg x.val) ∧ ∀ (k' : Nat) g', DerT n l h s t k' g' x.val → lexLe x.rule x.arg k' g')

theorem DerT.fin {n : Normal} {l : Lattice} {h : Int} {s t k : Nat} {g : Int} {v : Val} (d : DerT n l h s t k g v) : v.cost < 1099511627776 := by
  cases d <;> assumption
theorem Der.fin {n : Normal} {l : Lattice} {h : Int} {s t : Nat} {v : Val} (d : Der n l h s t v) : v.cost < 1099511627776 := by
  obtain ⟨k, g, d⟩ := d
  exact d.fin
theorem Val.antisymm {a b : Val} (h1 : ¬ a.lt b) (h2 : ¬ b.lt a) : a = b := by
  obtain ⟨a1, a2⟩ := a
  obtain ⟨b1, b2⟩ := b
  simp only [Val.lt] at h1 h2
  have : a1 = b1 := by omega
  have : a2 = b2 := by omega
  simp [*]
theorem Cell.ext' {a b : Cell} (h1 : a.val = b.val) (h2 : a.rule = b.rule) (h3 : a.arg = b.arg) : a = b := by
  obtain ⟨a1, a2, a3, a4⟩ := a
  obtain ⟨b1, b2, b3, b4⟩ := b
  simp only [Cell.val, Val.mk.injEq] at h1 h2 h3
  simp [h1, h2, h3]
/-! ### values of instances -/
theorem comb1 (c : Int) (v : Val) : comb c [v] = if min (c + v.cost) 1099511627776 ≥ 1099511627776 then ⟨1099511627776, 0⟩ else ⟨min (c + v.cost) 1099511627776, min (1 + v.size) 1099511627776⟩ := rfl
theorem comb2 (c : Int) (v w : Val) : comb c [v, w] = if min (min (c + v.cost) 1099511627776 + w.cost) 1099511627776 ≥ 1099511627776 then ⟨1099511627776, 0⟩ else ⟨min (min (c + v.cost) 1099511627776 + w.cost) 1099511627776, min (min (1 + v.size) 1099511627776 + w.size) 1099511627776⟩ := rfl
theorem comb1_fin {c : Int} {v : Val} (hc : 0 ≤ c) (h : (comb c [v]).cost < 1099511627776) : v.cost < 1099511627776 := by
  rw [comb1] at h
  split at h
  · simp at h
  · simp only at h; omega
theorem comb2_fin {c : Int} {v w : Val} (hc : 0 ≤ c) (hv : 0 ≤ v.cost) (hw : 0 ≤ w.cost) (h : (comb c [v, w]).cost < 1099511627776) : v.cost < 1099511627776 ∧ w.cost < 1099511627776 := by
  rw [comb2] at h
  split at h
  · simp at h
  · simp only at h; omega
theorem comb1_mono {c : Int} {v v' : Val} (h : ¬ v.lt v') : ¬ (comb c [v]).lt (comb c [v']) := by
  rw [comb1, comb1]
  unfold Val.lt at h ⊢
  split <;> split <;> simp only <;> omega
theorem comb2_mono {c : Int} {v v' w w' : Val} (p1 : 0 ≤ v.cost) (p2 : 0 ≤ v'.cost) (p3 : 0 ≤ w.cost) (p4 : 0 ≤ w'.cost) (hv : ¬ v.lt v') (hw : ¬ w.lt w') : ¬ (comb c [v, w]).lt (comb c [v', w']) := by
  rw [comb2, comb2]
  unfold Val.lt at hv hw ⊢
  split <;> split <;> simp only <;> omega
theorem lt_trans_le {a b c : Val} (h : ¬ b.lt a) (k : ¬ c.lt b) : ¬ c.lt a := by
  unfold Val.lt at *
  omega

/-- The instances of rule k over a span, with the values found so far: argument and value. -/
def InstR (n : Normal) (l : Lattice) (c : Chart) (own : List Cell) (s t : Nat) (k : Nat) (g : Int) (v : Val) : Prop :=
  ∃ r, n.rules[k]? = some r ∧ ((r.kind = 1 ∧ s = t ∧ g = s ∧ v = comb r.price []) ∨
    (r.kind = 2 ∧ ∃ (a : Nat) (x : Arc), l.arcs[a]? = some x ∧ x.f = s ∧ x.t = t ∧ x.term = r.a ∧ g = a ∧ v = comb (r.price + x.cost) []) ∨
    (r.kind = 3 ∧ g = s ∧ v = comb r.price [valueV c own s t r.a s t]) ∨
    (r.kind = 4 ∧ ∃ d : Nat, s + d ≤ t ∧ g = s + d ∧ v = comb r.price [valueV c own s t r.a s (s + d), valueV c own s t r.b (s + d) t]))

theorem better_cases (x : Cell) (v : Val) (i g : Int) : betterC x v i g = x ∨ (v.cost < 1099511627776 ∧ ¬ x.val.lt v ∧ betterC x v i g = ⟨v.cost, v.size, i, g⟩) := by
  unfold betterC
  split
  · exact .inl rfl
  · rename_i h
    split
    · rename_i h2
      refine .inr ⟨by omega, ?_, rfl⟩
      rcases h2 with h2 | ⟨rfl, _⟩
      · unfold Val.lt at *; omega
      · unfold Val.lt; omega
    · exact .inl rfl
theorem better_fix {x : Cell} {v : Val} {i g : Int} (h : betterC x v i g = x) (hv : v.cost < 1099511627776) : ¬ v.lt x.val ∧ (v = x.val → lexLe x.rule x.arg i g) := by
  obtain ⟨xc, xs, xr, xa⟩ := x
  obtain ⟨vc, vs⟩ := v
  unfold betterC at h
  rw [if_neg (by simp only at hv ⊢; omega)] at h
  split at h
  · rename_i h2
    simp only [Cell.mk.injEq] at h
    obtain ⟨rfl, rfl, rfl, rfl⟩ := h
    simp only [Cell.val, Val.lt] at h2
    exfalso
    rcases h2 with h2 | ⟨_, h2⟩ <;> omega
  · rename_i h2
    simp only [not_or, not_and] at h2
    refine ⟨h2.1, fun e => ?_⟩
    have := h2.2 e
    unfold lexLe
    simp only at this ⊢
    omega

/-- One rule applied: what comes out is what was there, or an instance. -/
theorem improve_inst {n : Normal} {l : Lattice} {c : Chart} {own : List Cell} {s t k : Nat} {r : Rule} (hk : n.rules[k]? = some r) (hkind : r.kind = 1 ∨ r.kind = 2 ∨ r.kind = 3 ∨ r.kind = 4) (hst : s ≤ t) (x : Cell) :
    improveR r l c own s t k x = x ∨ ∃ g v, InstR n l c own s t k g v ∧ v.cost < 1099511627776 ∧ ¬ x.val.lt v ∧ improveR r l c own s t k x = ⟨v.cost, v.size, k, g⟩ := by
  have fold : ∀ (f : Cell → Nat → Cell) (N : Nat), (∀ y j, j < N → f y j = y ∨ ∃ g v, InstR n l c own s t k g v ∧ v.cost < 1099511627776 ∧ ¬ y.val.lt v ∧ f y j = ⟨v.cost, v.size, k, g⟩) →
      (List.range N).foldl f x = x ∨ ∃ g v, InstR n l c own s t k g v ∧ v.cost < 1099511627776 ∧ ¬ x.val.lt v ∧ (List.range N).foldl f x = ⟨v.cost, v.size, k, g⟩ := by
    intro f N
    induction N with
    | zero => intro _; exact .inl rfl
    | succ N ih =>
      intro h
      rw [List.range_succ, List.foldl_append]
      have ih := ih fun y j hj => h y j (by omega)
      simp only [List.foldl_cons, List.foldl_nil]
      obtain ⟨y, hy⟩ : ∃ y, (List.range N).foldl f x = y := ⟨_, rfl⟩
      rw [hy] at ih ⊢
      rcases h y N (by omega) with e | ⟨g, v, h1, h2, h3, h4⟩
      · rw [e]; exact ih
      · refine .inr ⟨g, v, h1, h2, ?_, h4⟩
        rcases ih with rfl | ⟨g', v', _, _, h3', rfl⟩
        · exact h3
        · have h3'' : ¬ (⟨v'.cost, v'.size⟩ : Val).lt v := h3
          exact lt_trans_le h3'' h3'
  have one : ∀ (y : Cell) (v : Val) (g : Int), InstR n l c own s t k g v → betterC y v k g = y ∨ ∃ g v, InstR n l c own s t k g v ∧ v.cost < 1099511627776 ∧ ¬ y.val.lt v ∧ betterC y v k g = ⟨v.cost, v.size, k, g⟩ := by
    intro y v g hi
    rcases better_cases y v k g with e | ⟨h1, h2, h3⟩
    · exact .inl e
    · exact .inr ⟨g, v, hi, h1, h2, h3⟩
  unfold improveR
  split
  · rename_i h1
    split
    · rename_i h2
      rcases better_cases x (comb r.price []) k s with e | ⟨h3, h4, h5⟩
      · exact .inl e
      · exact .inr ⟨_, _, ⟨r, hk, .inl ⟨h1, by omega, rfl, rfl⟩⟩, h3, h4, h5⟩
    · exact .inl rfl
  · split
    · rename_i h1
      refine fold _ _ fun y j hj => ?_
      unfold stepT
      split
      · rename_i h2
        have ha : l.arcs[j]? = some (l.arcs.getD j default) := by simp [List.getD, hj]
        rcases better_cases y (comb (r.price + (l.arcs.getD j default).cost) []) k j with e | ⟨h3, h4, h5⟩
        · exact .inl e
        · exact .inr ⟨_, _, ⟨r, hk, .inr (.inl ⟨h1, j, _, ha, h2.1, h2.2.1, h2.2.2, rfl, rfl⟩)⟩, h3, h4, h5⟩
      · exact .inl rfl
    · split
      · rename_i h1
        rcases better_cases x (comb r.price [valueV c own s t r.a s t]) k s with e | ⟨h3, h4, h5⟩
        · exact .inl e
        · exact .inr ⟨_, _, ⟨r, hk, .inr (.inr (.inl ⟨h1, rfl, rfl⟩))⟩, h3, h4, h5⟩
      · rename_i h1 h2 h3
        have h4 : r.kind = 4 := by omega
        refine fold _ _ fun y j hj => ?_
        unfold stepB
        rcases better_cases y (comb r.price [valueV c own s t r.a s (s + j), valueV c own s t r.b (s + j) t]) k (s + j) with e | ⟨h5, h6, h7⟩
        · exact .inl e
        · exact .inr ⟨_, _, ⟨r, hk, .inr (.inr (.inr ⟨h4, j, by omega, rfl, rfl⟩))⟩, h5, h6, h7⟩
theorem fold_fix {f : Cell → Nat → Cell} : ∀ {N : Nat}, (∀ x k, k < N → cellOk x → goes x (f x k)) → ∀ x, cellOk x → (List.range N).foldl f x = x → ∀ k, k < N → f x k = x
  | 0, _, _, _, _, k, h => by omega
  | N + 1, hf, x, hx, he, k, hk => by
    rw [List.range_succ, List.foldl_append] at he
    simp only [List.foldl_cons, List.foldl_nil] at he
    have h1 := goes_fold (fun x k hk => hf x k (by omega)) x hx (N := N)
    obtain ⟨z, hz⟩ : ∃ z, (List.range N).foldl f x = z := ⟨_, rfl⟩
    rw [hz] at h1 he
    have h2 := hf z N (by omega) h1.1
    rw [he] at h2
    have e : z = x := by
      rcases h1.2 with e | h1
      · exact e
      · rcases h2.2 with e | h2
        · exact e.symm
        · omega
    subst e
    by_cases hkN : k = N
    · subst hkN; exact he
    · exact fold_fix (fun x k hk => hf x k (by omega)) z hx hz k (by omega)
end Inc
end Go.Proofs
