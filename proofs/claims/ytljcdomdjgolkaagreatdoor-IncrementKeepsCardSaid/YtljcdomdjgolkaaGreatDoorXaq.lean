/- Build. Conditions: none. -/
import Derived.Test.YtljcdomdjgolkaaGreatDoorXap
import Derived.Test.YtljcdomdjgolkaaGreatDoorXan
import Derived.KernelRfl
import Derived.Test.YtljcdomdjgolkaaGreatDoorXaj
namespace Go.Proofs
open Go.DM Go.DM.Srt
set_option linter.unusedSimpArgs false
set_option linter.unusedVariables false

/-- The arcs from the first states. -/
def allN (x : Input) (y : Nat) : List Arc := (List.range y).flatMap (fromL x)
def arcsAll (x : Input) : List Arc := addAll [] (allN x (x.columns.length + 1))
def finals (x : Input) : List Int := (List.range (2 * x.columns.length + 1)).map fun s => if s % 2 = 0 then delC x (s / 2) x.columns.length else 1099511627776
/-- What Build returns. -/
def buildL (x : Input) : Lattice := ⟨2 * x.columns.length + 1, sortArcs (arcsAll x), finals x⟩
@[simp] theorem isMap_mapOb (al : List Arc) : isMap (some (mapOb al)) := by simp [isMap, mapOb]

end Go.Proofs
/- The example of the document. Conditions: none. -/
namespace Go.Proofs
open Go.DM Go.DM.Srt
set_option linter.unusedSimpArgs false
set_option linter.unusedVariables false

def exIn : Input := ⟨[⟨0, [0, -1], 5⟩], [3, 3], 4⟩
def exL : Lattice := ⟨3, [⟨0, 0, 0, 3, [(3, 0)]⟩, ⟨0, 0, 1, 3, [(3, 1)]⟩, ⟨0, 2, 0, 0, [(1, 0)]⟩, ⟨0, 2, 1, 8, [(2, 0), (3, 1)]⟩, ⟨2, 2, 0, 3, [(3, 0)]⟩, ⟨2, 2, 1, 3, [(3, 1)]⟩], [5, 1099511627776, 0]⟩
abbrev s12 : DM.Spec := specP (fun ts => ts = [exIn.enc]) (fun _ => exL.enc) false
abbrev s20 : DM.Spec := specP (fun ts => ∃ p : List Int, ts = [exIn.enc, exL.enc, .sl (intsT p)] ∧ p.length ≤ 1000) (fun | [_, _, .sl p] => .tup [.sl (opsT (scriptL 1 exL (decInts p)).1), ti (scriptL 1 exL (decInts p)).2] | _ => .bool false) false
abbrev s18 : DM.Spec := specP (fun ts => ∃ y : List Int, ts = [exL.enc, .sl (intsT y)] ∧ y.length ≤ 1000) (fun | [_, .sl y] => ti (distL exL (decInts y)) | _ => .bool false) true
abbrev s15 : DM.Spec := specP (fun ts => ∃ t : Int, ts = [exL.enc, ti t]) (fun | [_, .int _ t] => .bool (decide (validP exL t)) | _ => .bool false) true
abbrev s23 : DM.Spec := specP (fun ts => ∃ a b : Arc, ts = [.agg a.enc, .agg b.enc] ∧ a.ops.length ≤ 1000000000000) (fun | [.agg a, .agg b] => .bool (decide (decArc a = decArc b)) | _ => .bool false) true
end Go.Proofs
/- Law 6. Conditions: none. -/
namespace Go.Proofs
open Go.DM
set_option linter.unusedSimpArgs false
set_option linter.unusedVariables false

theorem fair_ok {x : Input} {k : Int} (h : fairP x k) : inOk x ∧ x.columns.length ≤ 60 ∧ x.insert.length ≤ 5 ∧ (∀ c ∈ x.columns, c.read.length = x.insert.length) := by
  obtain ⟨⟨h1, h2⟩, h3, h4⟩ := h
  have hcols : colsV x.columns x.insert.length := by
    by_cases e : colsV x.columns x.insert.length
    · exact e
    · exact absurd (.inr (.inr (.inr (.inr (.inr e))))) h3
  have hc : ∀ c ∈ x.columns, colV c x.insert.length := by
    intro c hc
    obtain ⟨i, hi, rfl⟩ := List.getElem_of_mem hc
    have := hcols i hi
    rwa [show x.columns.getD i default = x.columns[i] by simp [List.getD, hi]] at this
  have hsw : 0 ≤ x.swap ∧ x.swap ≤ 60000 := by
    constructor
    · by_cases e : x.swap < 0
      · exact absurd (.inr (.inr (.inr (.inl e)))) h3
      · omega
    · by_cases e : x.swap > 60000
      · exact absurd (.inr (.inr (.inr (.inr (.inl e))))) h3
      · omega
  have hn : x.columns.length ≤ 60 := by
    by_cases e : (x.columns.length : Int) > 60
    · exact absurd (.inr (.inl e)) h3
    · omega
  have hrd : ∀ c ∈ x.columns, c.read.length = x.insert.length := by
    intro c hcm
    have := (hc c hcm).1
    omega
  refine ⟨⟨⟨by omega, fun c hcm => ?_⟩, fun c hcm => ⟨by rw [hrd c hcm]; omega, fun p hp => ?_⟩, by omega, fun p hp => ?_, hsw.1, by omega⟩, hn, by omega, hrd⟩
  · have := (hc c hcm).1
    omega
  · obtain ⟨t, ht, rfl⟩ := List.getElem_of_mem hp
    have := (hc c hcm).2 t (by rw [hrd c hcm] at ht; simpa using ht)
    unfold readOk3 at this
    rw [show c.read.getD t default = c.read[t] by simp [List.getD, ht]] at this
    omega
  · obtain ⟨t, ht, rfl⟩ := List.getElem_of_mem hp
    have := h4 t (by simpa using ht)
    unfold insV at this
    rw [show x.insert.getD t default = x.insert[t] by simp [List.getD, ht]] at this
    omega

/-! what the reference builds fits -/
theorem mem_putFold {a b : Arc} {l : List Arc} (h : b ∈ (putFold a l).2) : b ∈ l ∨ b = a := by
  have key : ∀ (l : List Arc) (p : Bool × List Arc), b ∈ (l.foldl (putStep a) p).2 → b ∈ p.2 ∨ b ∈ l ∨ b = a := by
    intro l
    induction l with
    | nil => intro p h; exact .inl h
    | cons c l ih =>
      intro p h
      rcases ih _ h with h | h | h
      · unfold putStep at h
        split at h
        · simp only [List.mem_append, List.mem_singleton] at h
          rcases h with h | h
          · exact .inl h
          · split at h
            · exact .inr (.inr h)
            · exact .inr (.inl (by simp [h]))
        · split at h
          · simp only [List.mem_append, List.mem_singleton] at h
            rcases h with (h | h) | h
            · exact .inl h
            · exact .inr (.inr h)
            · exact .inr (.inl (by simp [h]))
          · simp only [List.mem_append, List.mem_singleton] at h
            rcases h with h | h
            · exact .inl h
            · exact .inr (.inl (by simp [h]))
      · exact .inr (.inl (by simp [h]))
      · exact .inr (.inr h)
  rcases key l (false, []) h with h | h | h
  · simp at h
  · exact .inl h
  · exact .inr h
theorem mem_putL {a b : Arc} {l : List Arc} (h : b ∈ putL l a) : b ∈ l ∨ b = a := by
  unfold putL at h
  split at h
  · exact .inl h
  · split at h
    · exact mem_putFold h
    · rw [List.mem_append, List.mem_singleton] at h
      rcases h with h | h
      · exact mem_putFold h
      · exact .inr h
theorem mem_putAll {b : Arc} : ∀ (cs l : List Arc), b ∈ putAll l cs → b ∈ l ∨ b ∈ cs
  | [], l, h => .inl h
  | c :: cs, l, h => by
    rcases mem_putAll cs (putL l c) h with h | h
    · rcases mem_putL h with h | h
      · exact .inl h
      · exact .inr (by simp [h])
    · exact .inr (by simp [h])
theorem mem_ft {α : Type} {f : Nat → List α} {i m : Nat} {a : α} (h : a ∈ ft f i m) : ∃ k, i ≤ k ∧ k < m ∧ a ∈ f k := by
  unfold ft at h
  obtain ⟨e, he, ha⟩ := List.mem_flatMap.1 h
  rw [List.mem_range] at he
  exact ⟨i + e, by omega, by omega, ha⟩
def arcGood (n : Nat) (a : Arc) : Prop := 0 ≤ a.f ∧ a.f < (2 * n + 1 : Nat) ∧ 0 ≤ a.t ∧ a.t < (2 * n + 1 : Nat) ∧ a.ops.length ≤ 1000000 ∧ 0 ≤ a.cost
theorem dels_len (n : Nat) : (dels n).length = n := by simp [dels]
theorem refArcs_good {x : Input} (hx : inOk x) (hn : x.columns.length ≤ 60) : ∀ a ∈ refArcs x, arcGood x.columns.length a := by
  obtain ⟨hd, hcs, hins, hinp, hsw0, hsw⟩ := hx
  have hdb := delC_bound hd
  intro a ha
  unfold refArcs at ha
  rcases mem_putAll _ _ ha with ha | ha
  · rcases mem_putAll _ _ ha with ha | ha
    · cases ha
    · obtain ⟨i, _, hi, ha⟩ := mem_ft ha
      unfold rI at ha
      rcases List.mem_append.1 ha with ha | ha
      · obtain ⟨m, hm1, hm2, ha⟩ := mem_ft ha
        unfold rM at ha
        rcases List.mem_append.1 ha with ha | ha
        · obtain ⟨t, _, ht, ha⟩ := mem_ft ha
          unfold rA at ha
          split at ha
          · rename_i hc
            rw [List.mem_singleton] at ha
            subst ha
            have := satA_nn (hdb i m).1 hc.2
            refine ⟨by simp only; omega, by simp only; omega, by simp only; omega, by simp only; omega, by simp [dels_len]; omega, this⟩
          · cases ha
        · unfold rS at ha
          split at ha
          · rename_i hc
            have hc' : m + 1 < x.columns.length := by simp [swapOk] at hc; exact hc.1
            rw [List.mem_singleton] at ha
            subst ha
            have := satA_nn (hdb i m).1 hsw0
            refine ⟨by simp only; omega, by simp only; omega, by simp only; omega, by simp only; omega, by simp [dels_len]; omega, this⟩
          · cases ha
      · unfold rT at ha
        split at ha
        · rename_i hc
          have hc' : i + 1 < x.columns.length := by simp [swapOk] at hc; exact hc.1
          rw [List.mem_singleton] at ha
          subst ha
          refine ⟨by simp only; omega, by simp only; omega, by simp only; omega, by simp only; omega, by simp, by simp⟩
        · cases ha
  · obtain ⟨i, _, hi, ha⟩ := mem_ft ha
    unfold iI at ha
    obtain ⟨m, hm1, hm2, ha⟩ := mem_ft ha
    unfold iM at ha
    obtain ⟨t, _, ht, ha⟩ := mem_ft ha
    unfold iT at ha
    rw [List.mem_singleton] at ha
    subst ha
    have := satA_nn (hdb i m).1 (hinp (x.insert.getD t default) (by simp [List.getD, ht])).1
    refine ⟨by simp only; omega, by simp only; omega, by simp only; omega, by simp only; omega, by simp [dels_len]; omega, this⟩
theorem refArcs_len {x : Input} (ht : x.insert.length ≤ 100) (hn : x.columns.length ≤ 60) : (refArcs x).length ≤ 900000 := by
  unfold refArcs
  have h1 := putAll_len (ft (iI x) 0 (x.columns.length + 1)) (putAll [] (ft (rI x) 0 (x.columns.length + 1)))
  have h2 := putAll_len (ft (rI x) 0 (x.columns.length + 1)) []
  have h3 := ft_len (f := iI x) (B := 7000) (fun k => iI_len x k ht hn) 0 (x.columns.length + 1)
  have h4 := ft_len (f := rI x) (B := 7000) (fun k => rI_len x k ht hn) 0 (x.columns.length + 1)
  simp at h2
  omega

end Go.Proofs
/- The builder of lattices and its specification hold the same arc for each key (plain law). Conditions: none. -/
namespace Go.Proofs
open Go.DM Go.DM.Srt
set_option linter.unusedSimpArgs false
set_option linter.unusedVariables false

theorem sameKey_iff {a b : Arc} : sameKey a b = true ↔ a.f = b.f ∧ a.t = b.t ∧ a.term = b.term := by simp [sameKey]
theorem sameKey_refl (a : Arc) : sameKey a a = true := by simp [sameKey]
theorem sameKey_symm (a b : Arc) : sameKey a b = sameKey b a := by
  simp only [sameKey, decide_eq_decide]; omega
theorem sameKey_left {a b : Arc} (h : sameKey a b = true) (k : Arc) : sameKey k a = sameKey k b := by
  rw [sameKey_iff] at h
  simp only [sameKey, decide_eq_decide]; omega
theorem before_trans {a b c : Arc} (h : before a b) (h2 : before b c) : before a c := by unfold before at *; omega
theorem before_key {a b : Arc} (h : before a b) : sameKey a b = false := by
  cases e : sameKey a b with
  | false => rfl
  | true => rw [sameKey_iff] at e; unfold before at h; omega
theorem before_tri {a b : Arc} (h1 : sameKey a b = false) (h2 : ¬ before a b) : before b a := by
  have : ¬ (a.f = b.f ∧ a.t = b.t ∧ a.term = b.term) := fun e => by rw [sameKey_iff.2 e] at h1; cases h1
  unfold before at *; omega
theorem before_same {a b c : Arc} (h : sameKey a b = true) (h2 : before a c) : before b c := by
  rw [sameKey_iff] at h; unfold before at *; omega
/-- The cheapest candidate of a key so far: one more. -/
def stepK (k : Arc) (o : Option Arc) (a : Arc) : Option Arc :=
  if a.cost < 1099511627776 ∧ sameKey k a = true then
    match o with
    | none => some a
    | some b => if a.cost < b.cost then some a else some b
  else o

def addR (a : Arc) : List Arc → List Arc
  | [] => [a]
  | b :: l => if sameKey a b = true then (if a.cost < b.cost then a else b) :: l else b :: addR a l
def putR (a : Arc) : List Arc → List Arc
  | [] => [a]
  | b :: l => if sameKey b a = true then (if a.cost < b.cost then a else b) :: l else if before a b then a :: b :: l else b :: putR a l
theorem putFold_true (a : Arc) (l acc : List Arc) : l.foldl (putStep a) (true, acc) = (true, acc ++ l) := by
  induction l generalizing acc with
  | nil => simp
  | cons b l ih => simp only [List.foldl_cons, putStep]; simp [ih]
def putFin (a : Arc) (p : Bool × List Arc) : List Arc := if p.1 = true then p.2 else p.2 ++ [a]
theorem putFin_fold (a : Arc) : ∀ (l acc : List Arc), putFin a (l.foldl (putStep a) (false, acc)) = acc ++ putR a l
  | [], acc => by simp [putR, putFin]
  | b :: l, acc => by
    rw [List.foldl_cons]
    unfold putR
    by_cases h1 : sameKey b a = true
    · have : putStep a (false, acc) b = (true, acc ++ [if a.cost < b.cost then a else b]) := by simp [putStep, h1]
      rw [this, putFold_true]
      simp [h1, putFin]
    · by_cases h2 : before a b
      · have : putStep a (false, acc) b = (true, acc ++ [a] ++ [b]) := by simp [putStep, h1, h2]
        rw [this, putFold_true]
        simp [h1, h2, putFin]
      · have : putStep a (false, acc) b = (false, acc ++ [b]) := by simp [putStep, h1, h2]
        rw [this, putFin_fold a l]
        simp [h1, h2]
theorem putL_eq {a : Arc} (h : a.cost < 1099511627776) (l : List Arc) : putL l a = putR a l := by
  unfold putL
  rw [if_neg (by omega)]
  have := putFin_fold a l []
  simp only [List.nil_append] at this
  exact this
theorem putR_mem {a c : Arc} : ∀ {l : List Arc}, c ∈ putR a l → c = a ∨ c ∈ l
  | [], h => by simp [putR] at h; exact .inl h
  | b :: l, h => by
    unfold putR at h
    split at h
    · rcases List.mem_cons.1 h with h | h
      · split at h
        · exact .inl h
        · exact .inr (by simp [h])
      · exact .inr (by simp [h])
    · split at h
      · rcases List.mem_cons.1 h with h | h
        · exact .inl h
        · exact .inr h
      · rcases List.mem_cons.1 h with h | h
        · exact .inr (by simp [h])
        · rcases putR_mem h with h | h
          · exact .inl h
          · exact .inr (by simp [h])
theorem putR_sorted {a : Arc} : ∀ {l : List Arc}, l.Pairwise before → (putR a l).Pairwise before
  | [], _ => by simp [putR]
  | b :: l, h => by
    rw [List.pairwise_cons] at h
    unfold putR
    split
    · rename_i e
      rw [List.pairwise_cons]
      refine ⟨fun c hc => ?_, h.2⟩
      split
      · exact before_same e (h.1 c hc)
      · exact h.1 c hc
    · rename_i e
      split
      · rename_i e2
        rw [List.pairwise_cons]
        refine ⟨fun c hc => ?_, List.pairwise_cons.2 h⟩
        rcases List.mem_cons.1 hc with rfl | hc
        · exact e2
        · exact before_trans e2 (h.1 c hc)
      · rename_i e2
        rw [List.pairwise_cons]
        refine ⟨fun c hc => ?_, putR_sorted h.2⟩
        rcases putR_mem hc with rfl | hc
        · exact before_tri (by rw [sameKey_symm]; simpa using e) e2
        · exact h.1 c hc
theorem putR_find (k a : Arc) : ∀ l : List Arc, l.Pairwise before → (putR a l).find? (sameKey k) = if sameKey k a = true then (match l.find? (sameKey k) with | none => some a | some b => if a.cost < b.cost then some a else some b) else l.find? (sameKey k)
  | [], _ => by unfold putR; rw [List.find?_cons]; cases sameKey k a <;> simp
  | b :: l, h => by
    rw [List.pairwise_cons] at h
    unfold putR
    split
    · rename_i e
      rw [sameKey_symm] at e
      have h1 := sameKey_left e k
      have h2 : sameKey k (if a.cost < b.cost then a else b) = sameKey k b := by split <;> simp [h1]
      rw [List.find?_cons, List.find?_cons, h2, h1]
      cases h3 : sameKey k b with
      | true => simp; split <;> rfl
      | false => simp
    · rename_i e
      split
      · rename_i e2
        rw [List.find?_cons]
        cases h3 : sameKey k a with
        | true =>
          have : (b :: l).find? (sameKey k) = none := by
            rw [List.find?_eq_none]
            intro c hc hk
            have hb : before a c := by
              rcases List.mem_cons.1 hc with rfl | hc
              · exact e2
              · exact before_trans e2 (h.1 c hc)
            have := before_key hb
            rw [sameKey_iff] at h3 hk
            rw [sameKey_iff.2 (by omega)] at this
            cases this
          rw [this]; rfl
        | false => rfl
      · rename_i e2
        rw [List.find?_cons, List.find?_cons]
        cases h3 : sameKey k b with
        | true =>
          have : sameKey k a = false := by
            cases h4 : sameKey k a with
            | false => rfl
            | true =>
              exfalso; apply e
              rw [sameKey_iff] at h3 h4 ⊢
              omega
          simp [this]
        | false => simp only []; exact putR_find k a l h.2
theorem putL_sorted {l : List Arc} (h : l.Pairwise before) (a : Arc) : (putL l a).Pairwise before := by
  by_cases hc : a.cost < 1099511627776
  · rw [putL_eq hc]; exact putR_sorted h
  · unfold putL; rw [if_pos (by omega)]; exact h
theorem putAll_sorted (cs : List Arc) : ∀ {al : List Arc}, al.Pairwise before → (putAll al cs).Pairwise before := by
  induction cs with
  | nil => intro al h; exact h
  | cons c cs ih => intro al h; exact ih (putL_sorted h c)
theorem putAll_find (k : Arc) (cs : List Arc) : ∀ {al : List Arc}, al.Pairwise before → (putAll al cs).find? (sameKey k) = cs.foldl (stepK k) (al.find? (sameKey k)) := by
  induction cs with
  | nil => intro al h; rfl
  | cons c cs ih =>
    intro al h
    show (putAll (putL al c) cs).find? (sameKey k) = _
    rw [ih (putL_sorted h c), List.foldl_cons]
    congr 1
    by_cases hc : c.cost < 1099511627776
    · rw [putL_eq hc, putR_find k c al h]
      unfold stepK
      simp [hc]
    · unfold putL stepK
      rw [if_pos (by omega), if_neg (fun e => hc e.1)]

/-! lists without two arcs of one key -/
theorem mem_find : ∀ {l : List Arc}, l.Pairwise (fun a b => sameKey a b = false) → ∀ a, a ∈ l ↔ l.find? (sameKey a) = some a
  | [], _, a => by simp
  | b :: l, h, a => by
    rw [List.pairwise_cons] at h
    rw [List.find?_cons, List.mem_cons]
    cases e : sameKey a b with
    | true =>
      simp only [Option.some.injEq]
      constructor
      · rintro (h2 | h2)
        · exact h2.symm
        · have := h.1 a h2
          rw [sameKey_symm, e] at this
          cases this
      · exact fun h2 => .inl h2.symm
    | false =>
      rw [← mem_find h.2 a]
      constructor
      · rintro (h2 | h2)
        · subst h2; rw [sameKey_refl] at e; cases e
        · exact h2
      · exact .inr
theorem sorted_keys {l : List Arc} (h : l.Pairwise before) : l.Pairwise (fun a b => sameKey a b = false) := h.imp before_key
end Go.Proofs
/- The builder of lattices and its specification answer alike (plain law). Conditions: none. -/
namespace Go.Proofs
open Go.DM Go.DM.Srt
set_option linter.unusedSimpArgs false
set_option linter.unusedVariables false

/-- Is it a candidate of this key that may be taken? -/
def pK (k a : Arc) : Bool := sameKey k a && decide (a.cost < 1099511627776)
theorem fold_filter (k : Arc) (cs : List Arc) : ∀ o, cs.foldl (stepK k) o = (cs.filter (pK k)).foldl (stepK k) o := by
  induction cs with
  | nil => intro o; rfl
  | cons c cs ih =>
    intro o
    rw [List.foldl_cons, List.filter_cons, ih]
    split
    · rfl
    · rename_i h
      congr 1
      unfold stepK
      rw [if_neg]
      rintro ⟨h1, h2⟩
      apply h
      simp [pK, h1, h2]
theorem mem_rT {x : Input} {i : Nat} {a : Arc} (h : a ∈ rT x i) : swapOk x i = true ∧ a = ⟨2 * i + 1, 2 * i + 4, (x.columns.getD i default).kind, 0, []⟩ := by
  unfold rT at h
  split at h
  · exact ⟨by assumption, by simpa using h⟩
  · simp at h
theorem refArcs_sorted (x : Input) : (refArcs x).Pairwise before := putAll_sorted _ (putAll_sorted _ List.Pairwise.nil)
end Go.Proofs
/- Equality of lattices; what Build answers is valid; law 3. Conditions: none. -/
namespace Go.Proofs
open Go.DM
set_option linter.unusedSimpArgs false
set_option linter.unusedVariables false

theorem Lattice.ext' {a b : Lattice} (h1 : a.states = b.states) (h2 : a.arcs = b.arcs) (h3 : a.final = b.final) : a = b := by
  cases a; cases b; simp at h1 h2 h3; simp [h1, h2, h3]
def sameP (a b : Lattice) : Prop := a.states = b.states ∧ a.arcs = b.arcs ∧ a.final = b.final
instance (a b : Lattice) : Decidable (sameP a b) := by unfold sameP; infer_instance

/-! what Build answers is valid -/
theorem step_mem (k : Arc) (cs : List Arc) : ∀ o a, cs.foldl (stepK k) o = some a → o = some a ∨ (a ∈ cs ∧ a.cost < 1099511627776) := by
  induction cs with
  | nil => intro o a h; exact .inl h
  | cons c cs ih =>
    intro o a h
    rw [List.foldl_cons] at h
    rcases ih _ _ h with h | ⟨h1, h2⟩
    · unfold stepK at h
      split at h
      · rename_i hc
        split at h
        · simp only [Option.some.injEq] at h
          subst h
          exact .inr ⟨by simp, hc.1⟩
        · split at h
          · simp only [Option.some.injEq] at h
            subst h
            exact .inr ⟨by simp, hc.1⟩
          · exact .inl h
      · exact .inl h
    · exact .inr ⟨by simp [h1], h2⟩
theorem refArcs_mem {x : Input} {a : Arc} (h : a ∈ refArcs x) : (a ∈ ft (rI x) 0 (x.columns.length + 1) ∨ a ∈ ft (iI x) 0 (x.columns.length + 1)) ∧ a.cost < 1099511627776 := by
  have h1 := (mem_find (sorted_keys (refArcs_sorted x)) a).1 h
  unfold refArcs at h1
  rw [← putAll_append, putAll_find _ _ List.Pairwise.nil] at h1
  rcases step_mem _ _ _ _ h1 with h2 | ⟨h2, h3⟩
  · cases h2
  · exact ⟨List.mem_append.1 h2, h3⟩
end Go.Proofs
/- The reference update. Conditions: none. -/
namespace Go.Proofs
namespace Inc
open Go.DM
set_option linter.unusedSimpArgs false
set_option linter.unusedVariables false

def inpOk (x : Input) : Prop := inOk x ∧ x.columns.length ≤ 60 ∧ x.insert.length ≤ 100 ∧ ∀ c ∈ x.columns, c.read.length = x.insert.length
theorem ref_lOk {x : Input} (h : inpOk x) : lOk (refBuildL x) := by
  obtain ⟨h1, h2, h3, h4⟩ := h
  have hs : (refBuildL x).states = 2 * x.columns.length + 1 := rfl
  have ha : (refBuildL x).arcs = refArcs x := rfl
  refine ⟨by omega, by omega, by rw [ha]; have := refArcs_len h3 h2; omega, fun a hm => ?_⟩
  rw [ha] at hm
  have h5 := (refArcs_good h1 h2 a hm).2.2.2.2.2
  have h6 := (refArcs_mem hm).2
  omega
theorem inV_ok {x : Input} {t : Int} (h : inV x t) (ht : t ≤ 5) : inpOk x := by
  have h1 := h.1
  have hl : (x.insert.length : Int) = t := by
    by_cases e : (x.insert.length : Int) = t
    · exact e
    · exact absurd (.inr (.inr (.inl e))) h1
  have h2 : (x.columns.length : Int) ≤ 60 := by
    by_cases e : (x.columns.length : Int) > 60
    · exact absurd (.inr (.inl e)) h1
    · omega
  obtain ⟨g1, g2, g3, g4⟩ := fair_ok (x := x) (k := 60) ⟨⟨h2, by omega⟩, by rw [hl]; exact h⟩
  exact ⟨g1, g2, by omega, g4⟩

def boolsT (l : List Bool) : List (List T) := l.map fun b => [.bool b]
@[simp] theorem boolsT_len (l : List Bool) : (boolsT l).length = l.length := by simp [boolsT]
def markN (kept : List Bool) (at1 y : Nat) : List Bool := (List.range y).foldl (fun k i => k.set (at1 + i) true) kept
theorem markN_succ (kept : List Bool) (at1 y : Nat) : markN kept at1 (y + 1) = (markN kept at1 y).set (at1 + y) true := by simp [markN, List.range_succ, List.foldl_append]
@[simp] theorem markN_len (kept : List Bool) (at1 y : Nat) : (markN kept at1 y).length = kept.length := by
  induction y with
  | zero => rfl
  | succ y ih => rw [markN_succ, List.length_set, ih]
def badR (k cf co cn : Int) : Prop := cf < 0 ∨ co < 0 ∨ cn < 0 ∨ cf > k ∨ cn > k - cf
instance (k cf co cn : Int) : Decidable (badR k cf co cn) := by unfold badR; infer_instance
def badM (nn on os ol k co cn : Int) : Prop := co > 60 ∨ on ≠ nn ∨ os ≠ 2 * (k - cn) + 1 + 2 * co ∨ ol ≠ countI nn os
instance (nn on os ol k co cn : Int) : Decidable (badM nn on os ol k co cn) := by unfold badM; infer_instance
structure UR where
  c : Chart
  n : Int
  e : Int
def UR.enc (u : UR) : T := .tup [u.c.enc, ti u.n, ti u.e]
theorem buildL_ok {n : Normal} {l : Lattice} (hn : nOk n) (hl : lOk l) : cellsOk n l (buildL n l) := by
  have := rowsL_ok hn hl l.states.toNat (by have := hl.1; omega)
  exact this
abbrev s12 : DM.Spec := specP (fun ts => ∃ a b c, ts = [.agg [.sl (colsT a), .sl (intsT b), ti c]] ∧ inpOk ⟨a, b, c⟩) (fun | [x] => .agg [ti (refBuildL (decX x)).states, .sl (arcsT (refBuildL (decX x)).arcs), .sl (intsT (refBuildL (decX x)).final)] | _ => .bool false) false
abbrev s11 : DM.Spec := specP (fun ts => ∃ nt nn ns rules ls arcs fin, ts = [.agg [ti nt, ti nn, ti ns, .sl (rulesT rules)], .agg [ti ls, .sl (arcsT arcs), .sl (intsT fin)]] ∧ nOk ⟨nt, nn, ns, rules⟩ ∧ lOk ⟨ls, arcs, fin⟩)
  (fun | [n, l] => .agg [ti (decN n).nonterms, ti (decL l).states, .sl (cellsT (buildL (decN n) (decL l)))] | _ => .bool false) false
end Inc
end Go.Proofs
/- Law 3. Conditions: none. -/
namespace Go.Proofs
open Go.DM Go.DM.Srt
set_option linter.unusedSimpArgs false
set_option linter.unusedVariables false

end Go.Proofs
