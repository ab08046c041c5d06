import Derived.Test.YtecgedikabjcdaaS6
import Derived.Test.YtecgedikabjcdaaDmX
namespace Go.Proofs
open Go.DM Go.DM.Srt
set_option linter.unusedSimpArgs false
set_option linter.unusedVariables false

def goodE (x : List T) : Prop := ∃ e : Edge, x = e.enc ∧ 0 ≤ e.head ∧ e.head ≤ 1000000000000
def keyE (x : List T) : Int := unti (x.getD 0 (ti 0))
def cmpE (x y : List T) : Int := keyE x - keyE y
theorem keyE_enc (e : Edge) : keyE e.enc = e.head := rfl
theorem cmpOkE : CmpOk goodE cmpE 36 5 := by
  refine ⟨?_, ?_⟩
  · rintro x y ⟨a, rfl, h1, h2⟩ ⟨b, rfl, h3, h4⟩
    exact t36 a b ⟨h1, h2⟩ ⟨h3, h4⟩
  · rintro x ⟨a, rfl, _⟩
    refine ⟨rfl, ?_⟩
    intro t ht
    simp only [Edge.enc, List.mem_cons, List.not_mem_nil, or_false] at ht
    rcases ht with rfl | rfl | rfl | rfl | rfl <;> rfl
theorem swoE : SWO (ltF cmpE) := by
  have hlt : ∀ x y, ltF cmpE x y = decide (keyE x < keyE y) := fun x y => decide_eq_decide.2 (by unfold cmpE; omega)
  refine ⟨fun x => ?_, fun x y z h1 h2 => ?_, fun x y z h1 h2 => ?_⟩ <;> simp only [hlt, decide_eq_true_eq, decide_eq_false_iff_not] at * <;> omega

/-- The stable sort goes through a map. -/
theorem insR_map {α β : Type} {lt : β → β → Bool} {lt' : α → α → Bool} {f : α → β} (h : ∀ a b, lt (f a) (f b) = lt' a b) (x : α) : ∀ l : List α, insR lt (f x) (l.map f) = (insR lt' x l).map f
  | [] => rfl
  | y :: l => by
    simp only [List.map_cons, insR, h]
    split
    · simp [insR_map h x l]
    · simp
theorem isort_map {α β : Type} {lt : β → β → Bool} {lt' : α → α → Bool} {f : α → β} (h : ∀ a b, lt (f a) (f b) = lt' a b) (l : List α) : isort lt (l.map f) = (isort lt' l).map f := by
  unfold isort isortR
  rw [List.map_reverse]
  congr 1
  suffices ∀ (l acc : List α), List.foldl (fun acc x => insR lt x acc) (acc.map f) (l.map f) = (List.foldl (fun acc x => insR lt' x acc) acc l).map f from this l []
  intro l
  induction l with
  | nil => intro acc; rfl
  | cons x l ih => intro acc; rw [List.map_cons, List.foldl_cons, List.foldl_cons, insR_map h, ih]

def ltH (a b : Edge) : Bool := decide (a.head < b.head)
theorem isort_edges (l : List Edge) : isort (ltF cmpE) (edgesT l) = edgesT (isort ltH l) := by
  refine isort_map (fun a b => ?_) l
  simp only [ltF, cmpE, keyE_enc, ltH]
  exact decide_eq_decide.2 (by omega)

def spanL (nt st : Int) (rules : List Rule) (arcs : List Arc) (f t : Int) (k : Nat) : List Edge := (List.range k).flatMap fun k => inst nt st (rules.getD k default) arcs f t k
def spanE (nt st : Int) (rules : List Rule) (arcs : List Arc) (f t : Int) : List Edge := isort ltH (spanL nt st rules arcs f t rules.length)
/-- The hyperedges of the spans (f, f) .. (f, t - 1). -/
def rowL (nt st : Int) (rules : List Rule) (arcs : List Arc) (f t : Nat) : List Edge := ((List.range t).drop f).flatMap fun t : Nat => spanE nt st rules arcs f t
def allL (nt st : Int) (rules : List Rule) (arcs : List Arc) (f : Nat) : List Edge := (List.range f).flatMap fun f => rowL nt st rules arcs f st.toNat
def finE (nt st start : Int) (fin : List Int) (t : Nat) : List Edge := if fin.getD t default < Inf then [⟨goalI nt st, [idxI nt st start 0 t], fin.getD t default, -1, t⟩] else []
def finL (nt st start : Int) (fin : List Int) (k : Nat) : List Edge := (List.range k).flatMap (finE nt st start fin)
def hyper (n : Normal) (l : Lattice) : List Edge := allL n.nonterms l.states n.rules l.arcs l.states.toNat ++ finL n.nonterms l.states n.start l.final l.final.length

theorem spanL_succ (nt st : Int) (rules : List Rule) (arcs : List Arc) (f t : Int) (k : Nat) : spanL nt st rules arcs f t (k + 1) = spanL nt st rules arcs f t k ++ inst nt st (rules.getD k default) arcs f t k := by
  simp [spanL, List.range_succ]
theorem rowL_succ (nt st : Int) (rules : List Rule) (arcs : List Arc) (f t : Nat) (h : f ≤ t) : rowL nt st rules arcs f (t + 1) = rowL nt st rules arcs f t ++ spanE nt st rules arcs f t := by
  unfold rowL
  rw [List.range_succ, List.drop_append_of_le_length (by simpa using h)]
  simp
theorem rowL_self (nt st : Int) (rules : List Rule) (arcs : List Arc) (f : Nat) : rowL nt st rules arcs f f = [] := by simp [rowL]
theorem allL_succ (nt st : Int) (rules : List Rule) (arcs : List Arc) (f : Nat) : allL nt st rules arcs (f + 1) = allL nt st rules arcs f ++ rowL nt st rules arcs f st.toNat := by
  simp [allL, List.range_succ]
theorem finL_succ (nt st start : Int) (fin : List Int) (k : Nat) : finL nt st start fin (k + 1) = finL nt st start fin k ++ finE nt st start fin k := by
  simp [finL, List.range_succ]

/-- What the proof asks of a grammar and a lattice. -/
structure Fit (n : Normal) (l : Lattice) : Prop where
  sm : sm n.nonterms l.states
  start : 0 ≤ n.start ∧ n.start ≤ 1000
  rules : ∀ r ∈ n.rules, okR2 r
  nrules : n.rules.length ≤ 1000
  arcs : okArcs l.arcs
  narcs : l.arcs.length ≤ 10000
  nfin : l.final.length ≤ 1000
  small : l.states ≤ 100

def pre34 (ts : List T) : Prop := ∃ (n : Normal) (l : Lattice) (k : Nat) (f t : Int), ts = [n.enc, l.enc, ti k, ti f, ti t] ∧ k < n.rules.length
def fn34 : List T → T
  | [n, l, .int _ k, .int _ f, .int _ t] => .fn (.func 47) (caps47 (decN n).nonterms (decL l).states ((decN n).rules.getD k.toNat default) (decL l).arcs (decL l).final f t k)
  | _ => .bool false
def Γ11 : Env := envOf [(35, specS (k35 goodE cmpE)), (34, specP pre34 fn34 false), (32, spec32), (33, spec33), (37, spec37)]
theorem ok11 : EnvOk Try.prog Γ11 := by
  refine ok35 cmpOkE swoE (EnvOk.cons ok1 ?_)
  rintro ts ⟨n, l, k, f, t, rfl, hk⟩
  exact ⟨by simpa [fn34] using t34 n l k f t hk, fun h => by cases h⟩

theorem inst_length (nt st : Int) (r : Rule) (arcs : List Arc) (f t k : Int) (ha : arcs.length ≤ 10000) (hf : okF f t) : (inst nt st r arcs f t k).length ≤ 10000 := by
  unfold inst
  split
  · split <;> simp
  split
  · have : ∀ (l : List Nat) (g : Nat → List Edge), (∀ i, (g i).length ≤ 1) → (l.flatMap g).length ≤ l.length := by
      intro l g hg
      induction l with
      | nil => simp
      | cons x l ih => simp only [List.flatMap_cons, List.length_append, List.length_cons]; have := hg x; omega
    have := this (List.range arcs.length) _ (fun i => by split <;> simp : ∀ i, (if (arcs.getD i default).f = f ∧ (arcs.getD i default).t = t ∧ (arcs.getD i default).term = r.a then [edgeOf nt st r f t k (r.price + (arcs.getD i default).cost) i []] else []).length ≤ 1)
    simp only [List.length_range] at this
    omega
  split
  · simp
  split
  · simp; unfold okF at hf; omega
  · simp
theorem flat_length {β : Type} (g : Nat → List β) (c : Nat) : ∀ l : List Nat, (∀ i ∈ l, (g i).length ≤ c) → (l.flatMap g).length ≤ l.length * c
  | [], _ => by simp
  | x :: l, h => by
    simp only [List.flatMap_cons, List.length_append, List.length_cons]
    have := h x (by simp)
    have := flat_length g c l fun i hi => h i (by simp [hi])
    rw [Nat.add_mul]; omega
end Go.Proofs
