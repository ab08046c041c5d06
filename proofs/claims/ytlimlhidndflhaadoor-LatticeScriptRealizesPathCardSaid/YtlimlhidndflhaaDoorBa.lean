/- The builder of lattices and its specification hold the same arc for each key (plain law). Conditions: none. -/
import Derived.Test.YtlimlhidndflhaaDoorNc
namespace Go.Proofs
open Go.DM Go.DM.Srt
set_option linter.unusedSimpArgs false
set_option linter.unusedVariables false

theorem sameKey_iff {a b : Arc} : sameKey a b = true ↔ a.f = b.f ∧ a.t = b.t ∧ a.term = b.term := by simp [sameKey]
theorem sameKey_refl (a : Arc) : sameKey a a = true := by simp [sameKey]
theorem sameKey_symm (a b : Arc) : sameKey a b = sameKey b a := by
  simp only [sameKey, decide_eq_decide]; omega
theorem sameKey_left {a b : Arc} (h : sameKey a b = true) (k : Arc) : sameKey k a = sameKey k b := by
  rw [sameKey_iff] at h
  simp only [sameKey, decide_eq_decide]; omega
theorem before_irrefl (a : Arc) : ¬ before a a := by unfold before; omega
theorem before_trans {a b c : Arc} (h : before a b) (h2 : before b c) : before a c := by unfold before at *; omega
theorem before_asymm {a b : Arc} (h : before a b) : ¬ before b a := by unfold before at *; omega
theorem before_key {a b : Arc} (h : before a b) : sameKey a b = false := by
  cases e : sameKey a b with
  | false => rfl
  | true => rw [sameKey_iff] at e; unfold before at h; omega
theorem before_tri {a b : Arc} (h1 : sameKey a b = false) (h2 : ¬ before a b) : before b a := by
  have : ¬ (a.f = b.f ∧ a.t = b.t ∧ a.term = b.term) := fun e => by rw [sameKey_iff.2 e] at h1; cases h1
  unfold before at *; omega
theorem before_same {a b c : Arc} (h : sameKey a b = true) (h2 : before a c) : before b c := by
  rw [sameKey_iff] at h; unfold before at *; omega
/-- The cheapest candidate of a key so far: one more. -/
def stepK (k : Arc) (o : Option Arc) (a : Arc) : Option Arc :=
  if a.cost < 1099511627776 ∧ sameKey k a = true then
    match o with
    | none => some a
    | some b => if a.cost < b.cost then some a else some b
  else o

def addR (a : Arc) : List Arc → List Arc
  | [] => [a]
  | b :: l => if sameKey a b = true then (if a.cost < b.cost then a else b) :: l else b :: addR a l
theorem addL_eq {a : Arc} (h : a.cost < 1099511627776) (al : List Arc) : addL al a = addR a al := by
  unfold addL
  rw [if_pos h]
  induction al with
  | nil => simp [addR]
  | cons b l ih =>
    rw [List.findIdx?_cons]
    unfold addR
    cases e : sameKey a b with
    | true => simp; split <;> rfl
    | false =>
      simp
      rw [← ih]
      cases hf : l.findIdx? (sameKey a) with
      | none => simp
      | some i => simp; split <;> rfl
theorem addR_find (k a : Arc) : ∀ l : List Arc, (addR a l).find? (sameKey k) = if sameKey k a = true then (match l.find? (sameKey k) with | none => some a | some b => if a.cost < b.cost then some a else some b) else l.find? (sameKey k)
  | [] => by unfold addR; rw [List.find?_cons]; cases sameKey k a <;> simp
  | b :: l => by
    unfold addR
    split
    · rename_i e
      have h1 := sameKey_left e k
      have h2 : sameKey k (if a.cost < b.cost then a else b) = sameKey k b := by split <;> simp [h1]
      rw [List.find?_cons, List.find?_cons, h2, h1]
      cases h3 : sameKey k b with
      | true => simp; split <;> rfl
      | false => simp
    · rename_i e
      rw [List.find?_cons, List.find?_cons]
      cases h3 : sameKey k b with
      | true =>
        have : sameKey k a = false := by
          cases h4 : sameKey k a with
          | false => rfl
          | true =>
            exfalso; apply e
            rw [sameKey_iff] at h3 h4 ⊢
            omega
        simp [this]
      | false => simp only []; exact addR_find k a l
theorem addAll_find (k : Arc) (cs : List Arc) : ∀ al : List Arc, (addAll al cs).find? (sameKey k) = cs.foldl (stepK k) (al.find? (sameKey k)) := by
  induction cs with
  | nil => intro al; rfl
  | cons c cs ih =>
    intro al
    show (addAll (addL al c) cs).find? (sameKey k) = _
    rw [ih, List.foldl_cons]
    congr 1
    by_cases hc : c.cost < 1099511627776
    · rw [addL_eq hc, addR_find]
      unfold stepK
      simp [hc]
    · unfold addL stepK
      rw [if_neg hc, if_neg (fun e => hc e.1)]

def putR (a : Arc) : List Arc → List Arc
  | [] => [a]
  | b :: l => if sameKey b a = true then (if a.cost < b.cost then a else b) :: l else if before a b then a :: b :: l else b :: putR a l
theorem putFold_true (a : Arc) (l acc : List Arc) : l.foldl (putStep a) (true, acc) = (true, acc ++ l) := by
  induction l generalizing acc with
  | nil => simp
  | cons b l ih => simp only [List.foldl_cons, putStep]; simp [ih]
def putFin (a : Arc) (p : Bool × List Arc) : List Arc := if p.1 = true then p.2 else p.2 ++ [a]
theorem putFin_fold (a : Arc) : ∀ (l acc : List Arc), putFin a (l.foldl (putStep a) (false, acc)) = acc ++ putR a l
  | [], acc => by simp [putR, putFin]
  | b :: l, acc => by
    rw [List.foldl_cons]
    unfold putR
    by_cases h1 : sameKey b a = true
    · have : putStep a (false, acc) b = (true, acc ++ [if a.cost < b.cost then a else b]) := by simp [putStep, h1]
      rw [this, putFold_true]
      simp [h1, putFin]
    · by_cases h2 : before a b
      · have : putStep a (false, acc) b = (true, acc ++ [a] ++ [b]) := by simp [putStep, h1, h2]
        rw [this, putFold_true]
        simp [h1, h2, putFin]
      · have : putStep a (false, acc) b = (false, acc ++ [b]) := by simp [putStep, h1, h2]
        rw [this, putFin_fold a l]
        simp [h1, h2]
theorem putL_eq {a : Arc} (h : a.cost < 1099511627776) (l : List Arc) : putL l a = putR a l := by
  unfold putL
  rw [if_neg (by omega)]
  have := putFin_fold a l []
  simp only [List.nil_append] at this
  exact this
theorem putR_mem {a c : Arc} : ∀ {l : List Arc}, c ∈ putR a l → c = a ∨ c ∈ l
  | [], h => by simp [putR] at h; exact .inl h
  | b :: l, h => by
    unfold putR at h
    split at h
    · rcases List.mem_cons.1 h with h | h
      · split at h
        · exact .inl h
        · exact .inr (by simp [h])
      · exact .inr (by simp [h])
    · split at h
      · rcases List.mem_cons.1 h with h | h
        · exact .inl h
        · exact .inr h
      · rcases List.mem_cons.1 h with h | h
        · exact .inr (by simp [h])
        · rcases putR_mem h with h | h
          · exact .inl h
          · exact .inr (by simp [h])
theorem putR_sorted {a : Arc} : ∀ {l : List Arc}, l.Pairwise before → (putR a l).Pairwise before
  | [], _ => by simp [putR]
  | b :: l, h => by
    rw [List.pairwise_cons] at h
    unfold putR
    split
    · rename_i e
      rw [List.pairwise_cons]
      refine ⟨fun c hc => ?_, h.2⟩
      split
      · exact before_same e (h.1 c hc)
      · exact h.1 c hc
    · rename_i e
      split
      · rename_i e2
        rw [List.pairwise_cons]
        refine ⟨fun c hc => ?_, List.pairwise_cons.2 h⟩
        rcases List.mem_cons.1 hc with rfl | hc
        · exact e2
        · exact before_trans e2 (h.1 c hc)
      · rename_i e2
        rw [List.pairwise_cons]
        refine ⟨fun c hc => ?_, putR_sorted h.2⟩
        rcases putR_mem hc with rfl | hc
        · exact before_tri (by rw [sameKey_symm]; simpa using e) e2
        · exact h.1 c hc
theorem putR_find (k a : Arc) : ∀ l : List Arc, l.Pairwise before → (putR a l).find? (sameKey k) = if sameKey k a = true then (match l.find? (sameKey k) with | none => some a | some b => if a.cost < b.cost then some a else some b) else l.find? (sameKey k)
  | [], _ => by unfold putR; rw [List.find?_cons]; cases sameKey k a <;> simp
  | b :: l, h => by
    rw [List.pairwise_cons] at h
    unfold putR
    split
    · rename_i e
      rw [sameKey_symm] at e
      have h1 := sameKey_left e k
      have h2 : sameKey k (if a.cost < b.cost then a else b) = sameKey k b := by split <;> simp [h1]
      rw [List.find?_cons, List.find?_cons, h2, h1]
      cases h3 : sameKey k b with
      | true => simp; split <;> rfl
      | false => simp
    · rename_i e
      split
      · rename_i e2
        rw [List.find?_cons]
        cases h3 : sameKey k a with
        | true =>
          have : (b :: l).find? (sameKey k) = none := by
            rw [List.find?_eq_none]
            intro c hc hk
            have hb : before a c := by
              rcases List.mem_cons.1 hc with rfl | hc
              · exact e2
              · exact before_trans e2 (h.1 c hc)
            have := before_key hb
            rw [sameKey_iff] at h3 hk
            rw [sameKey_iff.2 (by omega)] at this
            cases this
          rw [this]; rfl
        | false => rfl
      · rename_i e2
        rw [List.find?_cons, List.find?_cons]
        cases h3 : sameKey k b with
        | true =>
          have : sameKey k a = false := by
            cases h4 : sameKey k a with
            | false => rfl
            | true =>
              exfalso; apply e
              rw [sameKey_iff] at h3 h4 ⊢
              omega
          simp [this]
        | false => simp only []; exact putR_find k a l h.2
theorem putL_sorted {l : List Arc} (h : l.Pairwise before) (a : Arc) : (putL l a).Pairwise before := by
  by_cases hc : a.cost < 1099511627776
  · rw [putL_eq hc]; exact putR_sorted h
  · unfold putL; rw [if_pos (by omega)]; exact h
theorem putAll_sorted (cs : List Arc) : ∀ {al : List Arc}, al.Pairwise before → (putAll al cs).Pairwise before := by
  induction cs with
  | nil => intro al h; exact h
  | cons c cs ih => intro al h; exact ih (putL_sorted h c)
theorem putAll_find (k : Arc) (cs : List Arc) : ∀ {al : List Arc}, al.Pairwise before → (putAll al cs).find? (sameKey k) = cs.foldl (stepK k) (al.find? (sameKey k)) := by
  induction cs with
  | nil => intro al h; rfl
  | cons c cs ih =>
    intro al h
    show (putAll (putL al c) cs).find? (sameKey k) = _
    rw [ih (putL_sorted h c), List.foldl_cons]
    congr 1
    by_cases hc : c.cost < 1099511627776
    · rw [putL_eq hc, putR_find k c al h]
      unfold stepK
      simp [hc]
    · unfold putL stepK
      rw [if_pos (by omega), if_neg (fun e => hc e.1)]

/-! lists without two arcs of one key -/
theorem mem_find : ∀ {l : List Arc}, l.Pairwise (fun a b => sameKey a b = false) → ∀ a, a ∈ l ↔ l.find? (sameKey a) = some a
  | [], _, a => by simp
  | b :: l, h, a => by
    rw [List.pairwise_cons] at h
    rw [List.find?_cons, List.mem_cons]
    cases e : sameKey a b with
    | true =>
      simp only [Option.some.injEq]
      constructor
      · rintro (h2 | h2)
        · exact h2.symm
        · have := h.1 a h2
          rw [sameKey_symm, e] at this
          cases this
      · exact fun h2 => .inl h2.symm
    | false =>
      rw [← mem_find h.2 a]
      constructor
      · rintro (h2 | h2)
        · subst h2; rw [sameKey_refl] at e; cases e
        · exact h2
      · exact .inr
theorem sorted_ext : ∀ {l1 l2 : List Arc}, l1.Pairwise before → l2.Pairwise before → (∀ a, a ∈ l1 ↔ a ∈ l2) → l1 = l2
  | [], [], _, _, _ => rfl
  | [], b :: t, _, _, h => absurd ((h b).2 (by simp)) (by simp)
  | a :: t, [], _, _, h => absurd ((h a).1 (by simp)) (by simp)
  | a :: t1, b :: t2, h1, h2, h => by
    rw [List.pairwise_cons] at h1 h2
    have e : a = b := by
      have ha := (h a).1 (by simp)
      have hb := (h b).2 (by simp)
      rcases List.mem_cons.1 ha with ha | ha
      · exact ha
      · rcases List.mem_cons.1 hb with hb | hb
        · exact hb.symm
        · exact absurd (h1.1 b hb) (before_asymm (h2.1 a ha))
    subst e
    congr 1
    refine sorted_ext h1.2 h2.2 fun x => ?_
    constructor
    · intro hx
      rcases List.mem_cons.1 ((h x).1 (by simp [hx])) with e | e
      · subst e; exact absurd (h1.1 x hx) (before_irrefl x)
      · exact e
    · intro hx
      rcases List.mem_cons.1 ((h x).2 (by simp [hx])) with e | e
      · subst e; exact absurd (h2.1 x hx) (before_irrefl x)
      · exact e
theorem sorted_keys {l : List Arc} (h : l.Pairwise before) : l.Pairwise (fun a b => sameKey a b = false) := h.imp before_key
theorem nodup_keys {l : List Arc} (h : (l.map keyRow).Nodup) : l.Pairwise (fun a b => sameKey a b = false) := by
  unfold List.Nodup at h
  rw [List.pairwise_map] at h
  refine h.imp fun {a b} hab => ?_
  cases e : sameKey a b with
  | false => rfl
  | true => exact absurd (keyRow_inj.2 e) hab

theorem insR_perm {α : Type} (lt : α → α → Bool) (x : α) : ∀ l : List α, (insR lt x l).Perm (x :: l)
  | [] => List.Perm.refl _
  | y :: ys => by
    simp only [insR]
    split
    · exact ((insR_perm lt x ys).cons y).trans (List.Perm.swap x y ys)
    · exact List.Perm.refl _
theorem isort_perm' {α : Type} (lt : α → α → Bool) (l : List α) : (isort lt l).Perm l := by
  have key : ∀ (l acc : List α), (l.foldl (fun acc x => insR lt x acc) acc).Perm (l ++ acc) := by
    intro l
    induction l with
    | nil => intro acc; exact List.Perm.refl _
    | cons x l ih =>
      intro acc
      rw [List.foldl_cons]
      refine (ih _).trans ?_
      refine ((insR_perm lt x acc).append_left l).trans ?_
      exact List.perm_middle
  unfold isort isortR
  refine (List.reverse_perm _).trans ?_
  simpa using key l []
theorem look3_self {al : List Arc} (h : (al.map keyRow).Nodup) {a : Arc} (ha : a ∈ al) : look3 al (keyRow a) = a := by
  have h1 := (look3_mem ha).1
  have h2 := (look3_mem ha).2.1
  have h3 := (mem_find (nodup_keys h) a).1 ha
  have h4 := (mem_find (nodup_keys h) _).1 h2
  have e : sameKey (look3 al (keyRow a)) = sameKey a := by
    funext b
    rw [sameKey_symm _ b, sameKey_symm _ b]
    exact (sameKey_left h1 b).symm
  rw [e, h3] at h4
  exact (Option.some.inj h4).symm
theorem mem_sortArcs {al : List Arc} (h : (al.map keyRow).Nodup) (a : Arc) : a ∈ sortArcs al ↔ a ∈ al := by
  unfold sortArcs
  rw [List.mem_map]
  constructor
  · rintro ⟨r, hr, rfl⟩
    rw [mem_isort] at hr
    obtain ⟨b, hb, rfl⟩ := List.mem_map.1 hr
    exact (look3_mem hb).2.1
  · intro ha
    exact ⟨keyRow a, by rw [mem_isort]; exact List.mem_map.2 ⟨a, ha, rfl⟩, look3_self h ha⟩
theorem sortArcs_sorted {al : List Arc} (h : (al.map keyRow).Nodup) : (sortArcs al).Pairwise before := by
  unfold sortArcs
  rw [List.pairwise_map]
  have h1 : (isort (ltF cmpKey) (al.map keyRow)).Nodup := (isort_perm' _ _).symm.nodup h
  have h2 := isort_sorted swoK (al.map keyRow)
  unfold Sorted at h2
  unfold List.Nodup at h1
  refine (h1.and h2).imp_of_mem fun {r s} hr hs hrs => ?_
  rw [mem_isort] at hr hs
  obtain ⟨a, ha, rfl⟩ := List.mem_map.1 hr
  obtain ⟨b, hb, rfl⟩ := List.mem_map.1 hs
  rw [look3_self h ha, look3_self h hb]
  have h3 : sameKey a b = false := by
    cases e : sameKey a b with
    | false => rfl
    | true => exact absurd (keyRow_inj.2 e) hrs.1
  by_cases hb2 : before a b
  · exact hb2
  · exfalso
    have h4 := before_tri h3 hb2
    have h5 := hrs.2
    rw [ltF_false] at h5
    apply h5
    simp only [keyRow, ints3, unti, lt3, List.getD_cons_zero, List.getD_cons_succ]
    exact h4
end Go.Proofs
/- The builder of lattices and its specification answer alike (plain law). Conditions: none. -/
namespace Go.Proofs
open Go.DM Go.DM.Srt
set_option linter.unusedSimpArgs false
set_option linter.unusedVariables false

/-- Is it a candidate of this key that may be taken? -/
def pK (k a : Arc) : Bool := sameKey k a && decide (a.cost < 1099511627776)
theorem fold_filter (k : Arc) (cs : List Arc) : ∀ o, cs.foldl (stepK k) o = (cs.filter (pK k)).foldl (stepK k) o := by
  induction cs with
  | nil => intro o; rfl
  | cons c cs ih =>
    intro o
    rw [List.foldl_cons, List.filter_cons, ih]
    split
    · rfl
    · rename_i h
      congr 1
      unfold stepK
      rw [if_neg]
      rintro ⟨h1, h2⟩
      apply h
      simp [pK, h1, h2]
theorem filter_flat {α β : Type} (p : β → Bool) (f : α → List β) (l : List α) : (l.flatMap f).filter p = l.flatMap fun a => (f a).filter p := by
  induction l with
  | nil => rfl
  | cons a l ih => simp [List.flatMap_cons, List.filter_append, ih]
theorem filter_ft {p : Arc → Bool} {f : Nat → List Arc} {i : Nat} (k0 : Nat) (h : ∀ k, k ≠ k0 → (f k).filter p = []) : ∀ m, (ft f i m).filter p = if i ≤ k0 ∧ k0 < m then (f k0).filter p else [] := by
  intro m
  by_cases him : m ≤ i
  · rw [show ft f i m = [] by unfold ft; rw [show m - i = 0 by omega]; rfl, if_neg (by omega)]; rfl
  obtain ⟨d, rfl⟩ : ∃ d, m = i + d := ⟨m - i, by omega⟩
  clear him
  induction d with
  | zero => rw [Nat.add_zero, ft_nil, if_neg (by omega)]; rfl
  | succ d ih =>
    rw [← Nat.add_assoc, ft_succ f (by omega), List.filter_append, ih]
    by_cases e : i + d = k0
    · rw [if_neg (by omega), if_pos (by omega), e]; rfl
    · rw [h _ e]
      by_cases e2 : i ≤ k0 ∧ k0 < i + d
      · rw [if_pos e2, if_pos (by omega)]; simp
      · rw [if_neg e2, if_neg (by omega)]; rfl
theorem filter_none {p : Arc → Bool} {l : List Arc} (h : ∀ a ∈ l, p a = false) : l.filter p = [] := by
  rw [List.filter_eq_nil_iff]
  intro a ha
  simp [h a ha]
theorem pK_key {k a : Arc} (h : ¬ (k.f = a.f ∧ k.t = a.t ∧ k.term = a.term)) : pK k a = false := by
  have : sameKey k a = false := by
    cases e : sameKey k a with
    | false => rfl
    | true => exact absurd (sameKey_iff.1 e) h
  simp [pK, this]
theorem pK_sat {k : Arc} {f t x c d : Int} {o : List (Int × Int)} (hc : 0 ≤ c) (hd : 0 ≤ d) : [(⟨f, t, x, c + d, o⟩ : Arc)].filter (pK k) = [(⟨f, t, x, satA c d, o⟩ : Arc)].filter (pK k) := by
  by_cases h : c + d < 1099511627776
  · have : satA c d = c + d := by unfold satA; rw [if_neg (by omega)]
    rw [this]
  · have : satA c d = 1099511627776 := by unfold satA; rw [if_pos (by omega)]
    rw [this]
    have h1 : pK k ⟨f, t, x, c + d, o⟩ = false := by simp [pK, h]
    have h2 : pK k ⟨f, t, x, 1099511627776, o⟩ = false := by simp [pK]
    simp [h1, h2]

theorem mem_readN {read : List Int} {i m cost : Int} {ops : List (Int × Int)} {n : Nat} {a : Arc} (h : a ∈ readN read i m cost ops n) : ∃ t : Nat, t < n ∧ 0 ≤ read.getD t 0 ∧ a = ⟨2 * i, 2 * m + 2, t, cost + read.getD t 0, ops ++ [(1, (t : Int))]⟩ := by
  unfold readN at h
  rw [List.mem_flatMap] at h
  obtain ⟨t, ht, h⟩ := h
  rw [List.mem_range] at ht
  split at h
  · rw [List.mem_singleton] at h
    exact ⟨t, ht, by assumption, h⟩
  · simp at h
theorem mem_insN {ins : List Int} {i m cost : Int} {ops : List (Int × Int)} {n : Nat} {a : Arc} (h : a ∈ insN ins i m cost ops n) : ∃ t : Nat, t < n ∧ a = ⟨2 * i, 2 * m, (t : Int), cost + ins.getD t 0, ops ++ [(3, (t : Int))]⟩ := by
  unfold insN at h
  rw [List.mem_map] at h
  obtain ⟨t, ht, h⟩ := h
  rw [List.mem_range] at ht
  exact ⟨t, ht, h.symm⟩
def swapC (x : Input) (i m : Nat) : List Arc := if swapOk x m then [⟨2 * i, 2 * m + 1, (x.columns.getD (m + 1) default).kind, delC x i m + x.swap, dels (m - i) ++ [(4, 0)]⟩] else []
theorem mem_swapC {x : Input} {i m : Nat} {a : Arc} (h : a ∈ swapC x i m) : swapOk x m = true ∧ a = ⟨2 * i, 2 * m + 1, (x.columns.getD (m + 1) default).kind, delC x i m + x.swap, dels (m - i) ++ [(4, 0)]⟩ := by
  unfold swapC at h
  split at h
  · exact ⟨by assumption, by simpa using h⟩
  · simp at h
theorem mem_rS {x : Input} {i m : Nat} {a : Arc} (h : a ∈ rS x i m) : swapOk x m = true ∧ a.f = 2 * i ∧ a.t = 2 * m + 1 := by
  unfold rS at h
  split at h
  · simp at h; subst h; exact ⟨by assumption, rfl, rfl⟩
  · simp at h
theorem mem_rT {x : Input} {i : Nat} {a : Arc} (h : a ∈ rT x i) : swapOk x i = true ∧ a = ⟨2 * i + 1, 2 * i + 4, (x.columns.getD i default).kind, 0, []⟩ := by
  unfold rT at h
  split at h
  · exact ⟨by assumption, by simpa using h⟩
  · simp at h
theorem mem_rA {x : Input} {i m t : Nat} {a : Arc} (h : a ∈ rA x i m t) : m < x.columns.length ∧ a.f = 2 * i ∧ a.t = 2 * m + 2 ∧ a.term = t := by
  unfold rA at h
  split at h
  · rename_i h2
    simp at h; subst h; exact ⟨h2.1, rfl, rfl, rfl⟩
  · simp at h
theorem mem_iT {x : Input} {i m t : Nat} {a : Arc} (h : a ∈ iT x i m t) : a.f = 2 * i ∧ a.t = 2 * m ∧ a.term = t := by
  simp [iT] at h; subst h; exact ⟨rfl, rfl, rfl⟩
theorem fromL_ft (x : Input) (i : Nat) : fromL x i = ft (cands x i) i (x.columns.length + 1) ++ rT x i := rfl
theorem mem_cands {x : Input} {i m : Nat} {a : Arc} (h : a ∈ cands x i m) : (i < m ∧ a ∈ readC x i (m - 1)) ∨ a ∈ insN x.insert i m (delC x i m) (dels (m - i)) x.insert.length ∨ a ∈ swapC x i m := by
  unfold cands at h
  rw [List.mem_append, List.mem_append] at h
  rcases h with h | h | h
  · split at h
    · exact .inl ⟨by assumption, h⟩
    · simp at h
  · exact .inr (.inl h)
  · exact .inr (.inr h)
theorem cands_f {x : Input} {i m : Nat} {a : Arc} (h : a ∈ cands x i m) : a.f = 2 * i ∧ (a.t = 2 * m ∨ a.t = 2 * m + 1) := by
  rcases mem_cands h with ⟨h1, h⟩ | h | h
  · obtain ⟨t, _, _, rfl⟩ := mem_readN h
    exact ⟨rfl, .inl (by simp only; omega)⟩
  · obtain ⟨t, _, rfl⟩ := mem_insN h
    exact ⟨rfl, .inl rfl⟩
  · obtain ⟨_, rfl⟩ := mem_swapC h
    exact ⟨rfl, .inr rfl⟩
theorem fromL_f {x : Input} {i : Nat} {a : Arc} (h : a ∈ fromL x i) : a.f = 2 * i ∨ a.f = 2 * i + 1 := by
  rw [fromL_ft, List.mem_append] at h
  rcases h with h | h
  · obtain ⟨m, _, _, h⟩ := mem_ft h
    exact .inl (cands_f h).1
  · obtain ⟨_, rfl⟩ := mem_rT h
    exact .inr rfl
theorem rM_f {x : Input} {i m : Nat} {a : Arc} (h : a ∈ rM x i m) : a.f = 2 * i ∧ (a.t = 2 * m + 2 ∧ m < x.columns.length ∨ a.t = 2 * m + 1) := by
  unfold rM at h
  rw [List.mem_append] at h
  rcases h with h | h
  · obtain ⟨t, _, _, h⟩ := mem_ft h
    have := mem_rA h
    exact ⟨this.2.1, .inl ⟨this.2.2.1, this.1⟩⟩
  · have := mem_rS h
    exact ⟨this.2.1, .inr this.2.2⟩
theorem rI_f {x : Input} {i : Nat} {a : Arc} (h : a ∈ rI x i) : a.f = 2 * i ∨ a.f = 2 * i + 1 := by
  unfold rI at h
  rw [List.mem_append] at h
  rcases h with h | h
  · obtain ⟨m, _, _, h⟩ := mem_ft h
    exact .inl (rM_f h).1
  · obtain ⟨_, rfl⟩ := mem_rT h
    exact .inr rfl
theorem iM_f {x : Input} {i m : Nat} {a : Arc} (h : a ∈ iM x i m) : a.f = 2 * i ∧ a.t = 2 * m := by
  unfold iM at h
  obtain ⟨t, _, _, h⟩ := mem_ft h
  have := mem_iT h
  exact ⟨this.1, this.2.1⟩
theorem iI_f {x : Input} {i : Nat} {a : Arc} (h : a ∈ iI x i) : a.f = 2 * i := by
  unfold iI at h
  obtain ⟨m, _, _, h⟩ := mem_ft h
  exact (iM_f h).1

def nnX (x : Input) : Prop := (∀ p ∈ x.insert, 0 ≤ p) ∧ 0 ≤ x.swap
theorem swap_filter {x : Input} (hn : nnX x) (hd : delOk x.columns) (k : Arc) (i m : Nat) : (swapC x i m).filter (pK k) = (rS x i m).filter (pK k) := by
  unfold swapC rS
  split
  · exact pK_sat (delC_bound hd i m).1 hn.2
  · rfl
theorem read_filter {x : Input} (hd : delOk x.columns) (hr : ∀ c ∈ x.columns, c.read.length = x.insert.length) (k : Arc) {i m : Nat} (hm : m < x.columns.length) : (readC x i m).filter (pK k) = (ft (rA x i m) 0 x.insert.length).filter (pK k) := by
  have hc : (x.columns.getD m default).read.length = x.insert.length := hr _ (by simp [List.getD, hm])
  unfold readC readN ft
  rw [hc, filter_flat, filter_flat, Nat.sub_zero]
  congr 1
  funext t
  rw [Nat.zero_add]
  unfold rA readAt
  have hcol : (default : Int) = 0 := rfl
  rw [hcol]
  by_cases h : 0 ≤ (x.columns.getD m default).read.getD t 0
  · rw [if_pos h, if_pos ⟨hm, h⟩]
    exact pK_sat (delC_bound hd i m).1 h
  · rw [if_neg h, if_neg (fun e => h e.2)]
theorem ins_filter {x : Input} (hn : nnX x) (hd : delOk x.columns) (k : Arc) (i m : Nat) : (insN x.insert i m (delC x i m) (dels (m - i)) x.insert.length).filter (pK k) = (iM x i m).filter (pK k) := by
  unfold insN iM ft
  rw [filter_flat, Nat.sub_zero]
  have : ∀ l : List Nat, (∀ t ∈ l, t < x.insert.length) → (l.map fun (t : Nat) => (⟨2 * i, 2 * m, (t : Int), delC x i m + x.insert.getD t 0, dels (m - i) ++ [(3, (t : Int))]⟩ : Arc)).filter (pK k) = l.flatMap fun t => (iT x i m (0 + t)).filter (pK k) := by
    intro l
    induction l with
    | nil => intro _; rfl
    | cons t l ih =>
      intro ht
      rw [List.map_cons, List.flatMap_cons, ← ih fun t h => ht t (by simp [h])]
      have e : iT x i m (0 + t) = [⟨2 * i, 2 * m, t, satA (delC x i m) (x.insert.getD t default), dels (m - i) ++ [(3, (t : Int))]⟩] := by rw [Nat.zero_add]; rfl
      have htl := ht t (by simp)
      have hp : 0 ≤ x.insert.getD t 0 := hn.1 _ (by simp [List.getD, htl])
      rw [e, ← List.singleton_append (l := List.map _ l), List.filter_append]
      congr 1
      exact pK_sat (delC_bound hd i m).1 hp
  exact this _ fun t ht => List.mem_range.1 ht

/-- For each key the builder and its specification have the same candidates in the same order. -/
theorem cands_same {x : Input} (hn : nnX x) (hd : delOk x.columns) (hr : ∀ c ∈ x.columns, c.read.length = x.insert.length) (k : Arc) :
    (allN x (x.columns.length + 1)).filter (pK k) = (ft (rI x) 0 (x.columns.length + 1) ++ ft (iI x) 0 (x.columns.length + 1)).filter (pK k) := by
  have e1 : allN x (x.columns.length + 1) = ft (fromL x) 0 (x.columns.length + 1) := by simp [allN, ft]
  obtain ⟨n, hN⟩ : ∃ n, x.columns.length = n := ⟨_, rfl⟩
  rw [e1, List.filter_append]
  have out : ∀ (f : Nat → List Arc), (∀ i, ∀ a ∈ f i, a.f = 2 * i ∨ a.f = 2 * i + 1) → ∀ j, j ≠ (k.f / 2).toNat → (f j).filter (pK k) = [] := by
    intro f hf j hj
    refine filter_none fun a ha => pK_key fun e => hj ?_
    have := hf j a ha
    omega
  rw [filter_ft _ (out _ fun i a => fromL_f), filter_ft _ (out _ fun i a => rI_f), filter_ft _ (out _ fun i a h => .inl (iI_f h))]
  obtain ⟨i, hi⟩ : ∃ i, (k.f / 2).toNat = i := ⟨_, rfl⟩
  rw [hi]
  by_cases hin : 0 ≤ i ∧ i < x.columns.length + 1
  case neg => rw [if_neg hin, if_neg hin, if_neg hin]; rfl
  rw [if_pos hin, if_pos hin, if_pos hin]
  rw [fromL_ft]
  unfold rI iI
  rw [List.filter_append, List.filter_append]
  by_cases hodd : k.f = 2 * i
  case neg =>
    have h1 : (ft (cands x i) i (x.columns.length + 1)).filter (pK k) = [] := filter_none fun a ha => pK_key fun e => by
      obtain ⟨m, _, _, h⟩ := mem_ft ha
      have := (cands_f h).1; omega
    have h2 : (ft (rM x i) i (x.columns.length + 1)).filter (pK k) = [] := filter_none fun a ha => pK_key fun e => by
      obtain ⟨m, _, _, h⟩ := mem_ft ha
      have := (rM_f h).1; omega
    have h3 : (ft (iM x i) i (x.columns.length + 1)).filter (pK k) = [] := filter_none fun a ha => pK_key fun e => by
      obtain ⟨m, _, _, h⟩ := mem_ft ha
      have := (iM_f h).1; omega
    rw [h1, h2, h3]; simp
  have hT : (rT x i).filter (pK k) = [] := filter_none fun a ha => pK_key fun e => by
    obtain ⟨_, rfl⟩ := mem_rT ha
    simp only at e; omega
  rw [hT, List.append_nil, List.append_nil]
  have outC : ∀ m, m ≠ (k.t / 2).toNat → (cands x i m).filter (pK k) = [] := fun m hm => filter_none fun a ha => pK_key fun e => by
    have := (cands_f ha).2; omega
  have outI : ∀ m, m ≠ (k.t / 2).toNat → (iM x i m).filter (pK k) = [] := fun m hm => filter_none fun a ha => pK_key fun e => by
    have := (iM_f ha).2; omega
  rw [filter_ft _ outC, filter_ft _ outI]
  obtain ⟨m, hm⟩ : ∃ m, (k.t / 2).toNat = m := ⟨_, rfl⟩
  rw [hm] at outC outI ⊢
  have hcand : (cands x i m).filter (pK k) = (if i < m then readC x i (m - 1) else []).filter (pK k) ++ ((insN x.insert i m (delC x i m) (dels (m - i)) x.insert.length).filter (pK k) ++ (swapC x i m).filter (pK k)) := by
    rw [← List.filter_append, ← List.filter_append]; rfl
  by_cases hev : k.t = 2 * m
  · -- an even end
    have hsw : (swapC x i m).filter (pK k) = [] := filter_none fun a ha => pK_key fun e => by
      obtain ⟨_, rfl⟩ := mem_swapC ha
      simp only at e; omega
    have outR : ∀ j, j ≠ (if m = 0 then n + 1 else m - 1) → (rM x i j).filter (pK k) = [] := fun j hj => filter_none fun a ha => pK_key fun e => by
      have := (rM_f ha).2
      split at hj <;> omega
    rw [filter_ft _ outR, hcand, hsw, List.append_nil, ins_filter hn hd k i m]
    by_cases hm0 : m = 0
    · rw [if_pos hm0]
      have h5 : ¬ (i ≤ n + 1 ∧ n + 1 < x.columns.length + 1) := by omega
      have h6 : ¬ i < m := by omega
      rw [if_neg h5, if_neg h6]
      simp
    · rw [if_neg hm0]
      obtain ⟨q, rfl⟩ : ∃ q, m = q + 1 := ⟨m - 1, by omega⟩
      rw [Nat.add_sub_cancel]
      have hrM : (rM x i q).filter (pK k) = (ft (rA x i q) 0 x.insert.length).filter (pK k) := by
        have : (rS x i q).filter (pK k) = [] := filter_none fun a ha => pK_key fun e => by
          have := (mem_rS ha).2.2; omega
        unfold rM
        rw [List.filter_append, this, List.append_nil]
      by_cases hq : q < x.columns.length
      · by_cases hiq : i < q + 1
        · rw [if_pos hiq, if_pos ⟨by omega, by omega⟩, if_pos ⟨by omega, by omega⟩, hrM, read_filter hd hr k hq]
          rw [if_pos ⟨by omega, by omega⟩]
        · rw [if_neg hiq]
          by_cases hiq2 : i = q + 1
          · rw [if_pos ⟨by omega, by omega⟩, if_neg (by omega), if_pos ⟨by omega, by omega⟩]; simp
          · rw [if_neg (by omega), if_neg (by omega), if_neg (by omega)]; simp
      · have hz : (rM x i q).filter (pK k) = [] := by
          rw [hrM]
          refine filter_none fun a ha => ?_
          obtain ⟨t, _, _, h⟩ := mem_ft ha
          exact absurd (mem_rA h).1 hq
        rw [hz, if_neg (by omega)]
        have h5 : ¬ (i ≤ q + 1 ∧ q + 1 < x.columns.length + 1) := by omega
        rw [if_neg h5]
        simp
  · -- an odd end
    have outR : ∀ j, j ≠ m → (rM x i j).filter (pK k) = [] := fun j hj => filter_none fun a ha => pK_key fun e => by
      have := (rM_f ha).2
      omega
    rw [filter_ft _ outR]
    have h1 : (iM x i m).filter (pK k) = [] := filter_none fun a ha => pK_key fun e => by
      have := (iM_f ha).2; omega
    have h2 : (insN x.insert i m (delC x i m) (dels (m - i)) x.insert.length).filter (pK k) = [] := by rw [ins_filter hn hd, h1]
    have h3 : (if i < m then readC x i (m - 1) else []).filter (pK k) = [] := filter_none fun a ha => pK_key fun e => by
      split at ha
      · obtain ⟨t, _, _, rfl⟩ := mem_readN ha
        simp only at e; omega
      · simp at ha
    have h4 : (rM x i m).filter (pK k) = (rS x i m).filter (pK k) := by
      have : (ft (rA x i m) 0 x.insert.length).filter (pK k) = [] := filter_none fun a ha => pK_key fun e => by
        obtain ⟨t, _, _, h⟩ := mem_ft ha
        have := (mem_rA h).2.2.1; omega
      unfold rM
      rw [List.filter_append, this, List.nil_append]
    rw [hcand, h1, h2, h3, h4, swap_filter hn hd]
    simp
theorem arcsAll_nodup (x : Input) : ((arcsAll x).map keyRow).Nodup := addAll_nodup _ (by simp)
theorem refArcs_sorted (x : Input) : (refArcs x).Pairwise before := putAll_sorted _ (putAll_sorted _ List.Pairwise.nil)
theorem arcs_same {x : Input} (hn : nnX x) (hd : delOk x.columns) (hr : ∀ c ∈ x.columns, c.read.length = x.insert.length) : sortArcs (arcsAll x) = refArcs x := by
  refine sorted_ext (sortArcs_sorted (arcsAll_nodup x)) (refArcs_sorted x) fun a => ?_
  rw [mem_sortArcs (arcsAll_nodup x), mem_find (nodup_keys (arcsAll_nodup x)), mem_find (sorted_keys (refArcs_sorted x))]
  unfold arcsAll refArcs
  rw [addAll_find, ← putAll_append, putAll_find _ _ List.Pairwise.nil, fold_filter, cands_same hn hd hr, ← fold_filter]
theorem fin_same (x : Input) : finals x = refFin x (2 * x.columns.length + 1) := by
  unfold finals refFin
  apply List.map_congr_left
  intro s hs
  rw [List.mem_range] at hs
  rw [if_pos hs]
theorem build_same {x : Input} (hn : nnX x) (hd : delOk x.columns) (hr : ∀ c ∈ x.columns, c.read.length = x.insert.length) : buildL x = refBuildL x := by
  unfold buildL refBuildL
  rw [arcs_same hn hd hr, fin_same]
theorem fair_same {x : Input} {k : Int} (h : fairP x k) : buildL x = refBuildL x := by
  obtain ⟨h1, h2, h3, h4⟩ := fair_ok h
  exact build_same ⟨fun p hp => (h1.2.2.2.1 p hp).1, h1.2.2.2.2.1⟩ h1.1 h4
end Go.Proofs
/- Equality of lattices; what Build answers is valid; law 3. Conditions: none. -/
namespace Go.Proofs
open Go.DM
set_option linter.unusedSimpArgs false
set_option linter.unusedVariables false

abbrev b23 : DM.Spec := specP (fun ts => ∃ a b : Arc, ts = [.agg a.enc, .agg b.enc] ∧ a.ops.length ≤ 1000000000000) (fun | [.agg a, .agg b] => .bool (decide (decArc a = decArc b)) | _ => .bool false) true
abbrev b26 : DM.Spec := specP (fun ts => ∃ a b : List Int, ts = [.sl (intsT a), .sl (intsT b)] ∧ a.length ≤ 1000000000000) (fun | [.sl a, .sl b] => .bool (decide (decInts a = decInts b)) | _ => .bool false) true
theorem ok13 : EnvOk Tryd.prog (envOf [(15, b23), (14, b26)]) := by
  refine EnvOk.cons (EnvOk.cons EnvOk.nil ?_) ?_
  · rintro ts ⟨a, b, rfl, h⟩
    exact ⟨by simpa using t26 a b h, fun _ => rfl⟩
  · rintro ts ⟨a, b, rfl, h⟩
    exact ⟨by simpa using t23 a b h, fun _ => rfl⟩
theorem Lattice.ext' {a b : Lattice} (h1 : a.states = b.states) (h2 : a.arcs = b.arcs) (h3 : a.final = b.final) : a = b := by
  cases a; cases b; simp at h1 h2 h3; simp [h1, h2, h3]
def sameP (a b : Lattice) : Prop := a.states = b.states ∧ a.arcs = b.arcs ∧ a.final = b.final
instance (a b : Lattice) : Decidable (sameP a b) := by unfold sameP; infer_instance

set_option maxRecDepth 20000 in
set_option maxHeartbeats 8000000 in
theorem t13 (a b : Lattice) (h1 : a.final.length ≤ 1000000000) (h2 : a.arcs.length ≤ 1000000000) (h3 : ∀ c ∈ a.arcs, c.ops.length ≤ 1000000000) : CallsOk Tryd.prog 7 [a.enc, b.enc] (.bool (decide (sameP a b))) := by
  have hΓ := ok13
  obtain ⟨s, arcs, fin⟩ := a
  obtain ⟨s', arcs', fin'⟩ := b
  simp only at h1 h2 h3
  obtain ⟨v, hv⟩ : ∃ v, decide (sameP ⟨s, arcs, fin⟩ ⟨s', arcs', fin'⟩) = v := ⟨_, rfl⟩
  rw [hv]
  have bad : ¬ sameP ⟨s, arcs, fin⟩ ⟨s', arcs', fin'⟩ → v = false := fun h => by rw [← hv]; simp [h]
  have hval : sameP ⟨s, arcs, fin⟩ ⟨s', arcs', fin'⟩ ↔ s = s' ∧ arcs = arcs' ∧ fin = fin' := Iff.rfl
  refine c13.ok (by simp) (initSt_sat ?_)
  simp [Lattice.enc]
  refine SatD.regSeq hΓ follows [2, 3] ?_
  simp [d13r0]
  refine SatD.le (Le.keep (o := []) (l := [(2, .v (.box [ti s, .sl (arcsT arcs), .sl (intsT fin)])), (3, .v (.box [ti s', .sl (arcsT arcs'), .sl (intsT fin')]))]) (nxt' := 1200) ?_ ?_ ?_ ?_) ?_
  · simp
  · simp
  · simp
  · simp
  refine SatD.seq ?_
  obtain ⟨c1, hc1⟩ : ∃ c : Bool, decide (s ≠ s' ∨ arcs.length ≠ arcs'.length ∨ fin ≠ fin') = c := ⟨_, rfl⟩
  have hpre : ∃ a b : List Int, (intsT fin = intsT a ∧ intsT fin' = intsT b) ∧ a.length ≤ 1000000000000 := ⟨fin, fin', ⟨rfl, rfl⟩, by omega⟩
  refine SatD.regToS hΓ follows [(2, .v (.box [ti s, .sl (arcsT arcs), .sl (intsT fin)])), (3, .v (.box [ti s', .sl (arcsT arcs'), .sl (intsT fin')])), (27, .v (.bool c1))] ?_ ?_
  · by_cases q1 : s = s'
    · by_cases q2 : arcs.length = arcs'.length
      · by_cases q3 : fin = fin'
        · have : c1 = false := by rw [← hc1]; simp [q1, q2, q3]
          simp [d13r1, q1, q2, q3, this]
          exact ⟨fin', ⟨rfl, fin', rfl⟩, by rw [← q3]; omega⟩
        · have : c1 = true := by rw [← hc1]; simp [q3]
          simp [d13r1, q1, q2, q3, this]
          exact ⟨fin, ⟨rfl, ⟨fin', rfl⟩⟩, by omega⟩
      · have q2' : (arcs.length : Int) ≠ arcs'.length := by omega
        have : c1 = true := by rw [← hc1]; simp [q2]
        simp [d13r1, q1, q2', this]
    · have : c1 = true := by rw [← hc1]; simp [q1]
      simp [d13r1, q1, this]
  refine SatD.cond rfl (fun h => ?_) (fun h => ?_)
  · rw [h] at hc1
    simp only [decide_eq_true_eq] at hc1
    refine SatD.regSeq hΓ follows [4] ?_
    simp [d13r2]
    refine SatD.ret ?_
    rw [bad fun e => by
      obtain ⟨g1, g2, g3⟩ := hval.1 e
      rcases hc1 with h | h | h
      · exact h g1
      · exact h (by rw [g2])
      · exact h g3]
    simp [d13res]
  · rw [h] at hc1
    simp only [decide_eq_false_iff_not, not_or, Classical.not_not] at hc1
    obtain ⟨e1, e2, e3⟩ := hc1
    refine SatD.skip ?_
    simp
    refine SatD.seq ?_
    refine SatD.regSeq hΓ follows [2, 3, 5] ?_
    simp [d13r3]
    refine SatD.block ?_
    refine SatD.loop (fun y : Nat => ⟨DM.look [(2, .v (.box [ti s, .sl (arcsT arcs), .sl (intsT fin)])), (3, .v (.box [ti s', .sl (arcsT arcs'), .sl (intsT fin')])), (5, .v (ti y))], obs [], 2000, 1000, []⟩)
      (fun y => y ≤ arcs.length ∧ ∀ i, i < y → arcs.getD i default = arcs'.getD i default) (fun y => arcs.length - y) 0 (Le.keep (o := []) ?_ ?_ ?_ ?_) (by simp) (fun y hy => ?_)
    · simp
    · simp
    · simp
    · simp
    obtain ⟨hy1, hy2⟩ := hy
    refine SatD.seq ?_
    refine SatD.regSeq hΓ follows [2, 3, 5, 32] ?_
    simp [d13r4]
    refine SatD.cond rfl (fun hcc => ?_) (fun hcc => ?_)
    · simp at hcc
      refine SatD.skip ?_
      simp
      refine SatD.seq ?_
      refine SatD.block ?_
      have hcb : y < arcs'.length := by omega
      have r1 := rowAt_arcs hcc
      have r2 := rowAt_arcs hcb
      obtain ⟨u, hu⟩ : ∃ u, arcs.getD y default = u := ⟨_, rfl⟩
      obtain ⟨w, hw⟩ : ∃ u, arcs'.getD y default = u := ⟨_, rfl⟩
      rw [hu] at r1
      rw [hw] at r2
      have hul : u.ops.length ≤ 1000000000000 := by
        have := h3 u (by rw [← hu]; simp [List.getD, hcc])
        omega
      obtain ⟨ue, hue⟩ : ∃ e, u.enc = e := ⟨_, rfl⟩
      obtain ⟨we, hwe⟩ : ∃ e, w.enc = e := ⟨_, rfl⟩
      have hd1 : decArc ue = u := by rw [← hue]; simp
      have hd2 : decArc we = w := by rw [← hwe]; simp
      have hl1 : ue.length = 5 := by rw [← hue]; simp [Arc.enc]
      have hl2 : we.length = 5 := by rw [← hwe]; simp [Arc.enc]
      rw [hue] at r1
      rw [hwe] at r2
      have ht1 : ue.take 5 = ue := List.take_of_length_le (by omega)
      have ht2 : we.take 5 = we := List.take_of_length_le (by omega)
      refine SatD.regSeq hΓ follows [2, 3, 5, 46] ?_
      simp [d13r5, hcc, hcb, r1, r2, hl1, hl2, hd1, hd2, ht1, ht2]
      refine ⟨⟨u, ⟨hue.symm, ⟨w, hwe.symm⟩⟩, hul⟩, ?_⟩
      refine SatD.cond rfl (fun hcc2 => ?_) (fun hcc2 => ?_)
      · simp at hcc2
        refine SatD.regSeq hΓ follows [4] ?_
        simp [d13r6]
        refine SatD.ret ?_
        rw [bad fun e => hcc2 (by obtain ⟨g1, g2, g3⟩ := hval.1 e; rw [← hu, ← hw, g2])]
        simp [d13res]
      · simp at hcc2
        refine SatD.skip ?_
        simp
        refine SatD.reg hΓ follows [2, 3, 5] ?_
        simp [d13r7]
        rw [wrap_id (by omega)]
        refine ⟨y + 1, Le.keep (o := []) ?_ ?_ ?_ ?_, ⟨by omega, fun i hi => ?_⟩, by omega⟩
        · simp
        · simp
        · simp
        · simp
        · by_cases e : i = y
          · subst e; show arcs.getD i default = arcs'.getD i default; rw [hu, hw, hcc2]
          · exact hy2 i (by omega)
    · simp at hcc
      refine SatD.exit ?_
      simp
      refine SatD.regSeq hΓ follows [4] ?_
      simp [d13r8]
      refine SatD.ret ?_
      have : v = true := by
        rw [← hv, decide_eq_true_eq]
        refine hval.2 ⟨e1, ?_, e3⟩
        apply List.ext_getElem e2
        intro i q1 q2
        have := hy2 i (by omega)
        simpa [List.getD, q1, q2] using this
      rw [this]
      simp [d13res]

/-! what Build answers is valid -/
theorem step_mem (k : Arc) (cs : List Arc) : ∀ o a, cs.foldl (stepK k) o = some a → o = some a ∨ (a ∈ cs ∧ a.cost < 1099511627776) := by
  induction cs with
  | nil => intro o a h; exact .inl h
  | cons c cs ih =>
    intro o a h
    rw [List.foldl_cons] at h
    rcases ih _ _ h with h | ⟨h1, h2⟩
    · unfold stepK at h
      split at h
      · rename_i hc
        split at h
        · simp only [Option.some.injEq] at h
          subst h
          exact .inr ⟨by simp, hc.1⟩
        · split at h
          · simp only [Option.some.injEq] at h
            subst h
            exact .inr ⟨by simp, hc.1⟩
          · exact .inl h
      · exact .inl h
    · exact .inr ⟨by simp [h1], h2⟩
theorem refArcs_mem {x : Input} {a : Arc} (h : a ∈ refArcs x) : (a ∈ ft (rI x) 0 (x.columns.length + 1) ∨ a ∈ ft (iI x) 0 (x.columns.length + 1)) ∧ a.cost < 1099511627776 := by
  have h1 := (mem_find (sorted_keys (refArcs_sorted x)) a).1 h
  unfold refArcs at h1
  rw [← putAll_append, putAll_find _ _ List.Pairwise.nil] at h1
  rcases step_mem _ _ _ _ h1 with h2 | ⟨h2, h3⟩
  · cases h2
  · exact ⟨List.mem_append.1 h2, h3⟩
theorem fair_cols {x : Input} {k : Int} (h : fairP x k) : ∀ c ∈ x.columns, colV c x.insert.length := by
  obtain ⟨⟨h1, h2⟩, h3, h4⟩ := h
  have hcols : colsV x.columns x.insert.length := by
    by_cases e : colsV x.columns x.insert.length
    · exact e
    · exact absurd (.inr (.inr (.inr (.inr (.inr e))))) h3
  intro c hc
  obtain ⟨i, hi, rfl⟩ := List.getElem_of_mem hc
  have := hcols i hi
  rwa [show x.columns.getD i default = x.columns[i] by simp [List.getD, hi]] at this
theorem fair_ins {x : Input} {k : Int} (h : fairP x k) {t : Nat} (ht : t < x.insert.length) : 1 ≤ x.insert.getD t default := by
  have := h.2.2 t (by simpa using ht)
  unfold insV at this
  omega
theorem satA_pos {a b : Int} (ha : 0 ≤ a) (hb : 1 ≤ b) : 1 ≤ satA a b := by unfold satA; split <;> omega
theorem refArcs_ok {x : Input} {k : Int} (h : fairP x k) : ∀ a ∈ refArcs x, arcOk (2 * x.columns.length + 1 : Nat) x.insert.length a := by
  obtain ⟨g1, g2, g3, g4⟩ := fair_ok h
  have hc := fair_cols h
  have hkind : ∀ m, m < x.columns.length → (x.columns.getD m default).kind < x.insert.length := by
    intro m hm
    have := (hc (x.columns.getD m default) (by simp [List.getD, hm])).1
    omega
  intro a ha
  obtain ⟨hm, hcost⟩ := refArcs_mem ha
  unfold arcOk
  rcases hm with hm | hm
  · obtain ⟨i, _, hi, hm⟩ := mem_ft hm
    unfold rI at hm
    rw [List.mem_append] at hm
    rcases hm with hm | hm
    · obtain ⟨m, him, hmn, hm⟩ := mem_ft hm
      unfold rM at hm
      rw [List.mem_append] at hm
      rcases hm with hm | hm
      · obtain ⟨t, _, ht, hm⟩ := mem_ft hm
        unfold rA at hm
        split at hm
        · rename_i hr
          simp only [List.mem_singleton] at hm
          subst hm
          have := satA_nn (delC_bound g1.1 i m).1 hr.2
          simp only at hcost ⊢
          omega
        · simp at hm
      · unfold rS at hm
        split at hm
        · rename_i hr
          simp only [List.mem_singleton] at hm
          subst hm
          have := satA_nn (delC_bound g1.1 i m).1 g1.2.2.2.2.1
          unfold swapOk at hr
          rw [decide_eq_true_eq] at hr
          have := hkind (m + 1) hr.1
          simp only at hcost ⊢
          omega
        · simp at hm
    · obtain ⟨hr, rfl⟩ := mem_rT hm
      unfold swapOk at hr
      rw [decide_eq_true_eq] at hr
      have := hkind i (by omega)
      simp only
      omega
  · obtain ⟨i, _, hi, hm⟩ := mem_ft hm
    unfold iI at hm
    obtain ⟨m, him, hmn, hm⟩ := mem_ft hm
    unfold iM at hm
    obtain ⟨t, _, ht, hm⟩ := mem_ft hm
    simp only [iT, List.mem_singleton] at hm
    subst hm
    have := satA_pos (delC_bound g1.1 i m).1 (fair_ins h ht)
    simp only at hcost ⊢
    omega
theorem ref_valid {x : Input} {k : Int} (h : fairP x k) : validP (refBuildL x) x.insert.length := by
  obtain ⟨g1, g2, g3, g4⟩ := fair_ok h
  have hlen : (refBuildL x).final.length = 2 * x.columns.length + 1 := refFin_len x _
  have hst : (refBuildL x).states = 2 * x.columns.length + 1 := rfl
  refine ⟨⟨by omega, by omega⟩, fun i hi => ?_, fun i hi => ⟨?_, ?_⟩⟩
  · rw [hlen] at hi
    unfold finOk
    have : (refBuildL x).final.getD i default = if i % 2 = 0 then delC x (i / 2) x.columns.length else 1099511627776 := by
      simp [refBuildL, refFin, List.getD, hi]
    rw [this]
    split
    · exact delC_bound g1.1 _ _
    · omega
  · have := refArcs_ok h ((refBuildL x).arcs.getD i default) (by simp only [List.getD, List.getElem?_eq_getElem hi, Option.getD_some]; exact List.getElem_mem hi)
    rw [hst]
    simpa using this
  · by_cases hi0 : i = 0
    · exact .inl hi0
    · right
      have hs := refArcs_sorted x
      rw [List.pairwise_iff_getElem] at hs
      have := hs (i - 1) i (by show i - 1 < (refBuildL x).arcs.length; omega) hi (by omega)
      have e1 : (refBuildL x).arcs.getD (i - 1) default = (refArcs x)[i - 1]'(by show i - 1 < (refBuildL x).arcs.length; omega) := by
        simp only [List.getD]
        rw [List.getElem?_eq_getElem (by omega)]
        rfl
      have e2 : (refBuildL x).arcs.getD i default = (refArcs x)[i]'hi := by
        simp only [List.getD]
        rw [List.getElem?_eq_getElem hi]
        rfl
      rw [e1, e2]
      exact this
end Go.Proofs
/- Law 3. Conditions: none. -/
namespace Go.Proofs
open Go.DM Go.DM.Srt
set_option linter.unusedSimpArgs false
set_option linter.unusedVariables false

theorem sortArcs_len (al : List Arc) : (sortArcs al).length = al.length := by simp [sortArcs, isort_length]
theorem fair_arcs {x : Input} {k : Int} (h : fairP x k) : (arcsAll x).length ≤ 900000 := by
  obtain ⟨h1, h2, h3, h4⟩ := fair_ok h
  rw [← sortArcs_len, arcs_same ⟨fun p hp => (h1.2.2.2.1 p hp).1, h1.2.2.2.2.1⟩ h1.1 h4]
  exact refArcs_len (by omega) h2
theorem fair_build {x : Input} {k : Int} (h : fairP x k) : CallsOk Tryd.prog 6 [x.enc] (refBuildL x).enc := by
  rw [← fair_same h]
  have := fair_arcs h
  exact t12 x (fair_ok h).1 (by unfold sortBound; omega) (by omega)
abbrev g12 : DM.Spec := specP (fun ts => ∃ (x : Input) (k : Int), ts = [x.enc] ∧ fairP x k) (fun | [x] => (refBuildL (decX x)).enc | _ => .bool false) false
abbrev g13 : DM.Spec := specP (fun ts => ∃ a b : Lattice, ts = [a.enc, b.enc] ∧ a.final.length ≤ 1000000000 ∧ a.arcs.length ≤ 1000000000 ∧ ∀ c ∈ a.arcs, c.ops.length ≤ 1000000000) (fun | [a, b] => .bool (decide (sameP (decL a) (decL b))) | _ => .bool false) true
theorem fair_lens {x : Input} {k : Int} (h : fairP x k) : (refBuildL x).final.length ≤ 1000000 ∧ (refBuildL x).arcs.length ≤ 1000000000 ∧ ∀ c ∈ (refBuildL x).arcs, c.ops.length ≤ 1000000000 := by
  obtain ⟨h1, h2, h3, h4⟩ := fair_ok h
  have hl : (refBuildL x).final.length = 2 * x.columns.length + 1 := refFin_len x _
  have hal : (refBuildL x).arcs.length ≤ 900000 := refArcs_len (by omega) h2
  refine ⟨by omega, by omega, fun c hc => ?_⟩
  have := (refArcs_good h1 h2 c hc).2.2.2.2.1
  omega
end Go.Proofs
