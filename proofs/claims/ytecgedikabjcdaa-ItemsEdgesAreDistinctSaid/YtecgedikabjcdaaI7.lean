import Derived.Test.YtecgedikabjcdaaI6
namespace Go.Proofs
open Go.DM
set_option linter.unusedSimpArgs false
set_option linter.unusedVariables false

/- The trees read back. -/
@[simp] def unti : T → Int
  | .int _ n => n
  | _ => 0
def decRule : List T → Rule
  | [a, b, c, d, e, f] => ⟨unti a, unti b, unti c, unti d, unti e, unti f⟩
  | _ => default
def decArc : List T → Arc
  | [a, b, c, d, .sl o] => ⟨unti a, unti b, unti c, unti d, o.map fun x => (unti (x.getD 0 (ti 0)), unti (x.getD 1 (ti 0)))⟩
  | _ => default
def decInts (l : List (List T)) : List Int := l.map fun x => unti (x.getD 0 (ti 0))
def decEdge : List T → Edge
  | [a, .sl b, c, d, e] => ⟨unti a, decInts b, unti c, unti d, unti e⟩
  | _ => default
def decRules (l : List (List T)) : List Rule := l.map decRule
def decArcs (l : List (List T)) : List Arc := l.map decArc
def decEdges (l : List (List T)) : List Edge := l.map decEdge
theorem map_map_id {α β : Type} {f : α → β} {g : β → α} (h : ∀ a, g (f a) = a) (l : List α) : (l.map f).map g = l := by
  rw [List.map_map]; conv => rhs; rw [← List.map_id l]
  exact List.map_congr_left fun a _ => h a
@[simp] theorem decRules_enc (l : List Rule) : decRules (rulesT l) = l := map_map_id (fun _ => rfl) l
@[simp] theorem decInts_enc (l : List Int) : decInts (intsT l) = l := map_map_id (fun _ => rfl) l
@[simp] theorem decArc_enc (a : Arc) : decArc a.enc = a := by
  cases a with
  | mk f t m c o =>
    simp only [decArc, Arc.enc, unti, opsT]
    congr 1
    exact map_map_id (fun _ => rfl) o
@[simp] theorem decArcs_enc (l : List Arc) : decArcs (arcsT l) = l := map_map_id decArc_enc l
@[simp] theorem decEdge_enc (a : Edge) : decEdge a.enc = a := by
  simp only [decEdge, Edge.enc, unti, decInts_enc]
@[simp] theorem decEdges_enc (l : List Edge) : decEdges (edgesT l) = l := map_map_id decEdge_enc l
def decN : T → Normal
  | .agg [a, b, c, .sl r] => ⟨unti a, unti b, unti c, decRules r⟩
  | _ => ⟨0, 0, 0, []⟩
def decL : T → Lattice
  | .agg [a, .sl b, .sl c] => ⟨unti a, decArcs b, decInts c⟩
  | _ => ⟨0, [], []⟩
@[simp] theorem decN_enc' (a b c : Int) (l : List Rule) : decN (.agg [ti a, ti b, ti c, .sl (rulesT l)]) = ⟨a, b, c, l⟩ := by simp [decN]
@[simp] theorem decN_enc (n : Normal) : decN n.enc = n := by simp [Normal.enc]
@[simp] theorem decL_enc' (a : Int) (l : List Arc) (f : List Int) : decL (.agg [ti a, .sl (arcsT l), .sl (intsT f)]) = ⟨a, l, f⟩ := by simp [decL]
@[simp] theorem decL_enc (n : Lattice) : decL n.enc = n := by simp [Lattice.enc]

def fn44 : List T → T
  | [n] => .bool (validN (decN n))
  | _ => .bool false
def pre44 (ts : List T) : Prop := ∃ n : Normal, ts = [n.enc] ∧ n.rules.length ≤ 9223372036854775807
def Γ4 : Env := envOf [(44, specP pre44 fn44 true)]
theorem ok4 : EnvOk Try.prog Γ4 := by
  refine EnvOk.cons EnvOk.nil ?_
  rintro ts ⟨n, rfl, h⟩
  exact ⟨by simpa [fn44] using t44 EnvOk.nil n h, fun _ => rfl⟩

def smallN (n : Normal) : Bool := decide (n.nonterms ≤ 14 ∧ (n.rules.length : Int) ≤ 24 ∧ n.terms ≤ 6) && validN n
theorem t30 (n : Normal) (hl : n.rules.length ≤ 9223372036854775807) : CallsOk Try.prog 30 [n.enc] (.bool (smallN n)) := by
  have hΓ := ok4
  refine c30.ok (by simp) (initSt_sat ?_)
  simp [Normal.enc]
  refine SatD.regSeq hΓ follows [1, 2] ?_
  simp [d30r0]
  refine SatD.regToS hΓ follows [(2, .v (.bool (smallN n)))] ?_ ?_
  · simp [d30r1, Γ4, fn44, specP]
    repeat' (first | apply And.intro | intro _)
    all_goals first | exact ⟨n, rfl, hl⟩ | (simp [smallN, *]; done) | (simp [smallN]; intros; omega)
  refine SatD.ret ?_
  simp [d30res]

def Γ5 : Env := envOf [(30, specP pre44 (fun | [n] => .bool (smallN (decN n)) | _ => .bool false) true), (31, specP (fun ts => ∃ (l : Lattice) (t : Int), ts = [l.enc, ti t] ∧ l.final.length ≤ 9223372036854775807 ∧ l.arcs.length ≤ 9223372036854775807) (fun | [l, .int _ t] => .bool (validL (decL l) t) | _ => .bool false) true)]
theorem ok5 : EnvOk Try.prog Γ5 := by
  refine EnvOk.cons (EnvOk.cons EnvOk.nil ?_) ?_
  · rintro ts ⟨l, t, rfl, h1, h2⟩
    exact ⟨by simpa using t31 l t h1 h2, fun _ => rfl⟩
  · rintro ts ⟨n, rfl, h⟩
    exact ⟨by simpa using t30 n h, fun _ => rfl⟩

def fair (n : Normal) (l : Lattice) : Bool := smallN n && decide (l.states ≤ 11 ∧ (l.arcs.length : Int) ≤ 120) && validL l n.terms
theorem t10 (n : Normal) (l : Lattice) (hl : n.rules.length ≤ 9223372036854775807) (hf : l.final.length ≤ 9223372036854775807) (ha : l.arcs.length ≤ 9223372036854775807) : CallsOk Try.prog 10 [n.enc, l.enc] (.bool (fair n l)) := by
  have hΓ := ok5
  refine c10.ok (by simp) (initSt_sat ?_)
  simp [Normal.enc, Lattice.enc]
  refine SatD.regSeq hΓ follows [2, 3, 4] ?_
  simp [d10r0]
  refine SatD.regToS hΓ follows [(4, .v (.bool (fair n l)))] ?_ ?_
  · simp [d10r1, Γ5, specP]
    repeat' (first | apply And.intro | intro _)
    all_goals first | exact ⟨n, rfl, hl⟩ | exact ⟨n, rfl, hl⟩ | exact ⟨l, rfl, hf, ha⟩ | (simp [fair, *]; done) | (simp [fair]; intros; omega) | trace_state
  refine SatD.ret ?_
  simp [d10res]
end Go.Proofs
