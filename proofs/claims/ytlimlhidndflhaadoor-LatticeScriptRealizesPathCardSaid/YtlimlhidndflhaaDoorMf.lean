/- The D-machine, part R: from the arguments as the claim reads them to trees, and back. Conditions: none. -/
import Derived.Test.YtlimlhidndflhaaDoorMe
import Derived.ChangeArms
import Derived.ChangeStays
import Derived.ChangeSame
import Derived.RowKit
import Derived.OpenShut
namespace Go.DM
open Go.RowKit Go.ChangeShapes Go.WideShapes
set_option linter.unusedSimpArgs false
set_option linter.unusedVariables false
set_option linter.unusedSectionVars false
variable [Laid]

/-- The fields lie one behind another, their types are in the list. -/
def fieldsOk (P : Program) (L : List TypeId) : Nat → List Field → Nat → Bool
  | o, [], n => o == n
  | o, f :: fs, n => f.offset == o && L.contains f.type && fieldsOk P L (o + P.cellsOf f.type) fs n
/-- Types of plain data: numbers, truth values, texts, slices, structs and arrays of such; closed under parts. -/
def plainTy (P : Program) (L : List TypeId) (t : TypeId) : Bool :=
  match P.underlying t with
  | some .bool | some (.int _) | some .string => true
  | some (.slice e) => L.contains e && decide (0 < P.cellsOf e)
  | some (.struct fs) => fieldsOk P L 0 fs.toList (P.cellsOf t)
  | some (.array n e) => L.contains e && P.cellsOf t == n * P.cellsOf e
  | _ => false
def plainTys (P : Program) (L : List TypeId) : Bool := L.all (plainTy P L)

/-- Cells one part behind another. -/
def allTys (q : TypeId → List T → Prop) : List TypeId → List T → Prop
  | [], ts => ts = []
  | t :: tys, ts => ∃ a b, ts = a ++ b ∧ q t a ∧ allTys q tys b
/-- These cells are a value of that type. -/
def HasTy (P : Program) : Nat → TypeId → List T → Prop
  | 0, _, _ => False
  | n + 1, t, ts =>
    match P.underlying t with
    | some .bool => ∃ b, ts = [.bool b]
    | some (.int k) => ∃ x, ts = [.int k x] ∧ (Lit.int k x).wf = true
    | some .string => ∃ s, ts = [.str s] ∧ s.size ≤ maxLen
    | some (.slice e) => ∃ rows, ts = [.sl rows] ∧ rows.length ≤ maxLen ∧ ∀ r ∈ rows, HasTy P n e r
    | some (.struct fs) => allTys (HasTy P n) (fs.toList.map (·.type)) ts
    | some (.array k e) => allTys (HasTy P n) (List.replicate k e) ts
    | _ => False
/-- This tree is an argument of that type. -/
def HasArg (P : Program) (n : Nat) (t : TypeId) (x : T) : Prop :=
  match P.underlying t with
  | some (.struct _) | some (.array _ _) => ∃ ts, x = .agg ts ∧ HasTy P n t ts
  | _ => HasTy P n t [x]
def HasArgs (P : Program) : List TypeId → List T → Prop
  | [], xs => xs = []
  | t :: ts, xs => ∃ x xs', xs = x :: xs' ∧ (∃ n, HasArg P n t x) ∧ HasArgs P ts xs'

section
variable {P : Program} {L : List TypeId}

theorem plain_mem (h : plainTys P L = true) {t : TypeId} (ht : t ∈ L) : plainTy P L t = true := List.all_eq_true.1 h t ht

theorem fieldsOk_spec : ∀ (fs : List Field) (o n : Nat), fieldsOk P L o fs n = true → (∀ f ∈ fs, f.type ∈ L) ∧ n = o + (fs.map fun f => P.cellsOf f.type).sum ∧ ∀ (j : Nat) f, fs[j]? = some f → f.offset = o + ((fs.take j).map fun f => P.cellsOf f.type).sum
  | [], o, n, h => by
    simp only [fieldsOk, beq_iff_eq] at h
    exact ⟨fun _ h => (by cases h), by simp [h], fun j f h => by simp at h⟩
  | f :: fs, o, n, h => by
    simp only [fieldsOk, Bool.and_eq_true, beq_iff_eq, List.contains_iff_mem] at h
    obtain ⟨⟨h1, h2⟩, h3⟩ := h
    obtain ⟨k1, k2, k3⟩ := fieldsOk_spec fs _ n h3
    refine ⟨fun g hg => ?_, ?_, fun j g hg => ?_⟩
    · rcases List.mem_cons.1 hg with rfl | hg
      · exact h2
      · exact k1 g hg
    · rw [k2]; simp; omega
    · cases j with
      | zero => simp at hg; subst hg; simp [h1]
      | succ j =>
        have := k3 j g (by simpa using hg)
        rw [this]; simp; omega

theorem plain_kids (h : plainTys P L = true) : Kids P (· ∈ L) := by
  refine ⟨fun {t e} ht hu => ?_, fun {t e} ht hu => ?_, fun {t e n} ht hu => ?_, fun {t fs} ht hu => ?_, fun {t k e} ht hu => ?_⟩
  all_goals
    have := plain_mem h ht
    simp only [plainTy, hu] at this
  · cases this
  · simp only [Bool.and_eq_true, List.contains_iff_mem] at this; exact this.1
  · simp only [Bool.and_eq_true, List.contains_iff_mem, beq_iff_eq] at this; exact this
  · obtain ⟨k1, k2, k3⟩ := fieldsOk_spec _ _ _ this
    exact ⟨k1, by simpa using k2, fun j f hf => by simpa using k3 j f hf⟩
  · cases this

theorem fields_rel {H : Type} {enc : TypeId × Value → H} {w : World} {n : Nat} {sp : Nat → Bool} {held : Bool} {cs : List Value}
    (ih : ∀ t cs x, t ∈ L → DataW.trod enc P w 0 sp held n t cs = some x → ∃ ts, RelL w (fun _ => False) ts cs ∧ HasTy P n t ts) :
    ∀ (fs : List Field) (o N : Nat), fieldsOk P L o fs N = true → (∀ f ∈ fs, ∃ x, DataW.trod enc P w 0 sp held n f.type ((cs.drop f.offset).take (P.cellsOf f.type)) = some x) → cs.length = N →
      ∃ ts, RelL w (fun _ => False) ts (cs.drop o) ∧ allTys (HasTy P n) (fs.map (·.type)) ts
  | [], o, N, h, _, hl => by
    simp only [fieldsOk, beq_iff_eq] at h
    exact ⟨[], by simp only [RelL]; rw [List.drop_eq_nil_of_le (by omega)], rfl⟩
  | f :: fs, o, N, h, hx, hl => by
    simp only [fieldsOk, Bool.and_eq_true, beq_iff_eq, List.contains_iff_mem] at h
    obtain ⟨⟨h1, h2⟩, h3⟩ := h
    obtain ⟨x, hx0⟩ := hx f (List.mem_cons_self ..)
    obtain ⟨a, ha, hta⟩ := ih _ _ _ h2 hx0
    obtain ⟨b, hb, htb⟩ := fields_rel ih fs _ N h3 (fun g hg => hx g (List.mem_cons_of_mem _ hg)) hl
    refine ⟨a ++ b, ?_, a, b, rfl, hta, htb⟩
    have := RelL.append ha hb
    rw [h1, ← List.drop_drop, List.take_append_drop] at this
    exact this

theorem rep_rel {H : Type} {enc : TypeId × Value → H} {w : World} {n : Nat} {sp : Nat → Bool} {held : Bool} {cs : List Value} {e : TypeId} (he : e ∈ L)
    (ih : ∀ t cs x, t ∈ L → DataW.trod enc P w 0 sp held n t cs = some x → ∃ ts, RelL w (fun _ => False) ts cs ∧ HasTy P n t ts) :
    ∀ (k i : Nat), (∀ j, i ≤ j → j < i + k → ∃ x, DataW.trod enc P w 0 sp held n e ((cs.drop (j * P.cellsOf e)).take (P.cellsOf e)) = some x) → cs.length = (i + k) * P.cellsOf e →
      ∃ ts, RelL w (fun _ => False) ts (cs.drop (i * P.cellsOf e)) ∧ allTys (HasTy P n) (List.replicate k e) ts
  | 0, i, _, hl => by
    exact ⟨[], by simp only [RelL]; rw [List.drop_eq_nil_of_le (by rw [hl]; simp)], rfl⟩
  | k + 1, i, hx, hl => by
    obtain ⟨x, hx0⟩ := hx i (Nat.le_refl _) (by omega)
    obtain ⟨a, ha, hta⟩ := ih _ _ _ he hx0
    obtain ⟨b, hb, htb⟩ := rep_rel he ih k (i + 1) (fun j h1 h2 => hx j (by omega) (by omega)) (by rw [hl]; congr 1; omega)
    refine ⟨a ++ b, ?_, a, b, rfl, hta, htb⟩
    have := RelL.append ha hb
    rw [show (i + 1) * P.cellsOf e = i * P.cellsOf e + P.cellsOf e by rw [Nat.add_mul]; omega, ← List.drop_drop, List.take_append_drop] at this
    exact this

theorem choose_rows {α : Type} {q : Nat → α → Prop} : ∀ (n : Nat), (∀ i, i < n → ∃ x, q i x) → ∃ l : List α, l.length = n ∧ ∀ i x, l[i]? = some x → q i x
  | 0, _ => ⟨[], rfl, fun i x h => by simp at h⟩
  | n + 1, h => by
    obtain ⟨l, hl, hq⟩ := choose_rows n fun i hi => h i (by omega)
    obtain ⟨x, hx⟩ := h n (by omega)
    refine ⟨l ++ [x], by simp [hl], fun i y hy => ?_⟩
    by_cases hi : i < l.length
    · rw [List.getElem?_append_left hi] at hy; exact hq i y hy
    · rw [List.getElem?_append_right (by omega)] at hy
      have : i = n := by
        have := (List.getElem?_eq_some_iff.1 hy).1
        simp at this; omega
      subst this
      simp [hl] at hy
      subst hy; exact hx

theorem cells_get {w : World} {a : Addr} {n : Nat} {cs : List Value} (h : w.cells? 0 a n = some cs) : cs.length = n ∧ ∀ j v, cs[j]? = some v → w.cell? (a.add j) = some v := by
  simp only [World.cells?, Nat.zero_le, if_true] at h
  refine ⟨by simpa using mapM_some_length h, fun j v hj => ?_⟩
  have hlt : j < n := by
    have := (List.getElem?_eq_some_iff.1 hj).1
    have h2 := mapM_some_length h
    simp at h2; omega
  have := mapM_some_get h j j (by simp [hlt])
  rw [hj] at this
  simpa using this.symm
where
  mapM_some_length {α β : Type} {f : α → Option β} {l : List α} {r : List β} (h : l.mapM f = some r) : r.length = l.length := by
    induction l generalizing r with
    | nil => simp at h; simp [h]
    | cons x l ih =>
      simp only [List.mapM_cons, Option.pure_def, Option.bind_eq_bind, Option.bind_eq_some_iff, Option.some.injEq] at h
      obtain ⟨y, _, ys, hys, rfl⟩ := h
      simp [ih hys]
  mapM_some_get {α β : Type} {f : α → Option β} {l : List α} {r : List β} (h : l.mapM f = some r) (i : Nat) (x : α) (hx : l[i]? = some x) : r[i]? = f x := by
    induction l generalizing r i with
    | nil => simp at hx
    | cons y l ih =>
      simp only [List.mapM_cons, Option.pure_def, Option.bind_eq_bind, Option.bind_eq_some_iff, Option.some.injEq] at h
      obtain ⟨z, hz, ys, hys, rfl⟩ := h
      cases i with
      | zero => simp at hx; subst hx; simp [hz]
      | succ i => simpa using ih hys i (by simpa using hx)

theorem cell_in {w : World} {a : Addr} {v : Value} (h : w.cell? a = some v) : a.block < w.heap.size ∧ a.spot = none := by
  unfold World.cell? at h
  split at h
  · rename_i c e f hb
    split at h
    · cases h
    · rename_i hs
      exact ⟨(Array.getElem?_eq_some_iff.1 hb).1, by simpa using hs⟩
  · cases h

theorem add_zero (a : Addr) : a.add 0 = a := by simp [Addr.add]
theorem add_none (b o k : Nat) : (⟨b, o, none⟩ : Addr).add k = ⟨b, o + k, none⟩ := by
  unfold Addr.add
  by_cases h : k = 0 <;> simp [h]

theorem trod_rel {H : Type} {enc : TypeId × Value → H} {w : World} {sp : Nat → Bool} {held : Bool} (hL : plainTys P L = true) : ∀ (n : Nat) (t : TypeId) (cs : List Value) (x : DataW H × List MemPlace), t ∈ L →
    DataW.trod enc P w 0 sp held n t cs = some x → ∃ ts, RelL w (fun _ => False) ts cs ∧ HasTy P n t ts := by
  intro n
  induction n with
  | zero => intro t cs x _ h; simp [DataW.trod] at h
  | succ n ih =>
    intro t cs x ht h
    have hp := plain_mem hL ht
    have one : ∀ {y : T} {v : Value}, v.oneCell' = true → RelT w (fun _ => False) y v → RelL w (fun _ => False) [y] [v] := fun h1 h2 => by simp only [RelL]; exact ⟨_, _, rfl, h1, h2, rfl⟩
    unfold plainTy at hp
    split at hp
    · rename_i hu
      obtain ⟨b, rfl, rfl⟩ : ∃ b, cs = [.bool b] ∧ x = (.lit (.bool b), []) := by
        unfold DataW.trod at h
        rw [hu] at h
        split at h <;> simp_all
      exact ⟨[.bool b], one rfl (by simp [RelT]), by simp [HasTy, hu]⟩
    · rename_i k hu
      obtain ⟨m, rfl, rfl, hw⟩ := DataW.trod_int hu h
      exact ⟨[.int k m], one rfl (by simp [RelT]), by simp [HasTy, hu, hw]⟩
    · rename_i hu
      obtain ⟨s, rfl, rfl, hs⟩ := DataW.trod_string hu h
      exact ⟨[.str s], one rfl (by simp [RelT]), by simp [HasTy, hu, hs]⟩
    · rename_i e hu
      simp only [Bool.and_eq_true, List.contains_iff_mem, decide_eq_true_eq] at hp
      obtain ⟨he, hpos⟩ := hp
      rcases DataW.trod_slice hu h with ⟨rfl, rfl⟩ | ⟨a, len, cap, elems, rest, m, hm, rfl, rfl, _, hlc, hcap, hel, hget, _, _⟩
      · exact ⟨[.sl []], one rfl (by simp [RelT]), by simp [HasTy, hu]⟩
      · obtain rfl : n = m := by omega
        have hrow : ∀ i, i < len → ∃ r : List T, (∃ cs', w.cells? 0 (a.add (i * P.cellsOf e)) (P.cellsOf e) = some cs' ∧ RelL w (fun _ => False) r cs') ∧ HasTy P n e r := by
          intro i hi
          have h1 := hget i hi
          have h2 : ∃ y, elems[i]? = some y := ⟨elems[i], List.getElem?_eq_getElem (by omega)⟩
          obtain ⟨y, hy⟩ := h2
          rw [hy] at h1
          obtain ⟨cs', h3, h4⟩ := Option.bind_eq_some_iff.1 h1
          obtain ⟨ts, h5, h6⟩ := ih e cs' y he h4
          exact ⟨ts, ⟨cs', h3, h5⟩, h6⟩
        obtain ⟨rows, hlen, hq⟩ := choose_rows len hrow
        refine ⟨[.sl rows], ?_, ?_⟩
        · simp only [RelL]
          refine ⟨_, [], rfl, rfl, ?_, rfl⟩
          simp only [RelT]
          cases rows with
          | nil =>
            simp at hlen
            subst hlen
            exact .inl ⟨rfl, _, _, rfl⟩
          | cons r0 rows =>
            right
            obtain ⟨⟨cs0, h3, h4⟩, _⟩ := hq 0 r0 rfl
            obtain ⟨h5, h6⟩ := cells_get h3
            have hc0 : ∃ v, cs0[0]? = some v := ⟨cs0[0], List.getElem?_eq_getElem (by omega)⟩
            obtain ⟨v0, hv0⟩ := hc0
            have h60 := h6 0 v0 hv0
            simp only [Nat.zero_mul, add_zero] at h60
            obtain ⟨hb, hs⟩ := cell_in h60
            obtain ⟨b, o, sp'⟩ := a
            simp only at hb hs
            subst hs
            have hat : ∀ i r, (r0 :: rows)[i]? = some r → r.length = P.cellsOf e ∧ RelAt w (fun _ => False) b (o + i * P.cellsOf e) r := by
              intro i r hr
              obtain ⟨⟨cs', h3, h4⟩, _⟩ := hq i r hr
              obtain ⟨h5, h6⟩ := cells_get h3
              refine ⟨by rw [← RelL.length h4, h5], RelAt.of_relL h4 fun j v hj => ?_⟩
              have h7 := h6 j v hj
              rw [add_none, add_none] at h7
              exact h7
            exact ⟨b, o, cap, P.cellsOf e, by rw [hlen], hb, fun h => h, by omega, RelRows.of_rows _ _ hat⟩
        · simp only [HasTy, hu]
          refine ⟨rows, rfl, by omega, fun r hr => ?_⟩
          obtain ⟨i, hi⟩ := List.getElem?_of_mem hr
          exact (hq i r hi).2
    · rename_i fs hu
      obtain ⟨xs, m, hm, rfl, hl, hxl, hf⟩ := DataW.trod_struct hu h
      obtain rfl : n = m := by omega
      obtain ⟨ts, h1, h2⟩ := fields_rel (cs := cs) ih fs.toList 0 _ hp (fun f hfm => by
        obtain ⟨i, hi⟩ := List.getElem?_of_mem hfm
        have hi' : fs[i]? = some f := by simpa using hi
        have := hf i f hi'
        have hlt : i < xs.length := by rw [hxl]; exact (Array.getElem?_eq_some_iff.1 hi').1
        rw [List.getElem?_eq_getElem hlt] at this
        exact ⟨_, this⟩) hl
      exact ⟨ts, by simpa using h1, by simpa [HasTy, hu] using h2⟩
    · rename_i k e hu
      simp only [Bool.and_eq_true, List.contains_iff_mem, beq_iff_eq] at hp
      have key : cs.length = P.cellsOf t ∧ ∀ i, i < k → ∃ y, DataW.trod enc P w 0 sp held n e ((cs.drop (i * P.cellsOf e)).take (P.cellsOf e)) = some y := by
        unfold DataW.trod at h
        rw [hu] at h
        split at h <;> simp_all
        obtain ⟨hl, xs, hmm, _⟩ := h
        intro i hi
        have := cells_get.mapM_some_get hmm i i (by simp [hi])
        have hlt : i < xs.length := by rw [cells_get.mapM_some_length hmm]; simp [hi]
        rw [List.getElem?_eq_getElem hlt] at this
        exact ⟨_, _, this.symm⟩
      obtain ⟨ts, h1, h2⟩ := rep_rel (cs := cs) hp.1 ih k 0 (fun j _ hj => key.2 j (by omega)) (by rw [key.1, hp.2]; simp)
      exact ⟨ts, by simpa using h1, by simpa [HasTy, hu] using h2⟩
    · cases hp

theorem arg_rel {H : Type} {enc : TypeId × Value → H} {w : World} {sp : Nat → Bool} {held : Bool} (hL : plainTys P L = true) {t : TypeId} (ht : t ∈ L) {v : Value} {base : Nat} (hv : Value.okWide P w .any base t v) {d : DataW H} {ps : List MemPlace}
    (h : DataW.Trod enc P w 0 sp held t v d ps) : ∃ x, RelT w (fun _ => False) x v ∧ ∃ n, HasArg P n t x := by
  obtain ⟨n, h⟩ := h
  obtain ⟨ts, h1, h2⟩ := trod_rel hL n t _ _ ht h
  have hp := plain_mem hL ht
  have single : (∀ cs, v ≠ .agg cs) → ∃ x, ts = [x] ∧ RelT w (fun _ => False) x v := by
    intro hne
    have hc : v.cells.toList = [v] := by cases v <;> first | rfl | exact absurd rfl (hne _)
    rw [hc] at h1
    cases ts with
    | nil => simp only [RelL] at h1; cases h1
    | cons x xs =>
      simp only [RelL] at h1
      obtain ⟨_, _, e, _, hr, hrs⟩ := h1
      simp only [List.cons.injEq] at e
      obtain ⟨rfl, rfl⟩ := e
      have := RelL.length hrs
      simp at this
      have e : xs = [] := List.eq_nil_of_length_eq_zero this.symm
      exact ⟨x, by rw [e], hr⟩
  have agg : (∃ cs, v = .agg cs) → ∃ x, x = T.agg ts ∧ RelT w (fun _ => False) x v := by
    rintro ⟨cs, rfl⟩
    exact ⟨_, rfl, by simp only [RelT]; exact ⟨cs, rfl, by simpa [Value.cells] using h1⟩⟩
  unfold plainTy at hp
  split at hp
  · rename_i hu
    obtain ⟨b, rfl⟩ := okWide_bool hu hv
    obtain ⟨x, rfl, hr⟩ := single (fun _ h => by cases h)
    exact ⟨x, hr, n, by simp only [HasArg, hu]; exact h2⟩
  · rename_i k hu
    obtain ⟨b, rfl⟩ := okWide_int hu hv
    obtain ⟨x, rfl, hr⟩ := single (fun _ h => by cases h)
    exact ⟨x, hr, n, by simp only [HasArg, hu]; exact h2⟩
  · rename_i hu
    obtain ⟨b, rfl⟩ := okWide_string hu hv
    obtain ⟨x, rfl, hr⟩ := single (fun _ h => by cases h)
    exact ⟨x, hr, n, by simp only [HasArg, hu]; exact h2⟩
  · rename_i e hu
    obtain ⟨a, l, c, rfl⟩ := okWide_slice hu hv
    obtain ⟨x, rfl, hr⟩ := single (fun _ h => by cases h)
    exact ⟨x, hr, n, by simp only [HasArg, hu]; exact h2⟩
  · rename_i fs hu
    obtain ⟨cs, rfl, _⟩ := okWide_struct hu hv
    obtain ⟨x, rfl, hr⟩ := agg ⟨_, rfl⟩
    exact ⟨_, hr, n, by simp only [HasArg, hu]; exact ⟨_, rfl, h2⟩⟩
  · rename_i k e hu
    have : ∃ cs, v = .agg cs := by
      simp only [Value.okWide, hu] at hv
      cases v <;> simp_all
    obtain ⟨cs, rfl⟩ := this
    obtain ⟨x, rfl, hr⟩ := agg ⟨_, rfl⟩
    exact ⟨_, hr, n, by simp only [HasArg, hu]; exact ⟨_, rfl, h2⟩⟩
  · cases hp

theorem args_rel {H : Type} {enc : TypeId × Value → H} {w : World} {sp : Nat → Bool} {held : Bool} (hL : plainTys P L = true) {base : Nat} : ∀ {tys : List TypeId} {vs : List Value} {ds : List (DataW H)} {ps : List MemPlace}, (∀ t ∈ tys, t ∈ L) →
    (∀ (j : Nat) t v, tys[j]? = some t → vs[j]? = some v → Value.okWide P w .any base t v) → DataW.TrodAll enc P w 0 sp held tys vs ds ps → ∃ xs, RelA w (fun _ => False) xs vs ∧ HasArgs P tys xs
  | [], vs, ds, ps, _, _, h => by
    obtain ⟨rfl, rfl, rfl⟩ := trodAll_nil h
    exact ⟨[], by simp [RelA], rfl⟩
  | t :: tys, vs, ds, ps, ht, hv, h => by
    obtain ⟨v, vs1, d, ds1, a, b, rfl, rfl, rfl, h1, h2⟩ := trodAll_cons h
    obtain ⟨x, k1, k2⟩ := arg_rel hL (ht t (List.mem_cons_self ..)) (hv 0 t v rfl rfl) h1
    obtain ⟨xs, k3, k4⟩ := args_rel hL (fun u hu => ht u (List.mem_cons_of_mem _ hu)) (fun j u y h1 h2 => hv (j + 1) u y (by simpa using h1) (by simpa using h2)) h2
    exact ⟨x :: xs, by simp only [RelA]; exact ⟨v, vs1, rfl, k1, k3⟩, x, xs, rfl, k2, k4⟩

theorem args_again {H : Type} {enc : TypeId × Value → H} {w w' : World} {sp' : Nat → Bool} {held : Bool} (hL : plainTys P L = true) (hheld : held = true) : ∀ {tys : List TypeId} {vs : List Value} {ds : List (DataW H)} {ps : List MemPlace}, (∀ t ∈ tys, t ∈ L) →
    DataW.TrodAll enc P w 0 (fun _ => true) held tys vs ds ps → (∀ p ∈ ps, w.sameAt w' p) → (∀ p ∈ ps, sp' p.block = true) → DataW.TrodAll enc P w' 0 sp' held tys vs ds ps
  | [], vs, ds, ps, _, h, _, _ => by
    obtain ⟨rfl, rfl, rfl⟩ := trodAll_nil h
    exact trodAll_mk0
  | t :: tys, vs, ds, ps, ht, h, h1, h2 => by
    obtain ⟨v, vs1, d, ds1, a, b, rfl, rfl, rfl, ⟨n, k1⟩, k2⟩ := trodAll_cons h
    refine trodAll_cons_mk ⟨n, DataW.trod_stays (plain_kids hL) (fun {t e} ht hu => ?_) (fun h => by rw [hheld] at h; cases h) (ht t (List.mem_cons_self ..)) k1 (fun p hp => h1 p (List.mem_append_left _ hp)) (fun p hp => h2 p (List.mem_append_left _ hp))⟩
      (args_again hL hheld (fun u hu => ht u (List.mem_cons_of_mem _ hu)) k2 (fun p hp => h1 p (List.mem_append_right _ hp)) (fun p hp => h2 p (List.mem_append_right _ hp)))
    have := plain_mem hL ht
    simp only [plainTy, hu, Bool.and_eq_true, decide_eq_true_eq] at this
    exact this.2

theorem trod_len {H : Type} {enc : TypeId × Value → H} {w : World} {b : Nat} {sp : Nat → Bool} {held : Bool} : ∀ {tys : List TypeId} {vs : List Value} {ds : List (DataW H)} {ps : List MemPlace}, DataW.TrodAll enc P w b sp held tys vs ds ps → ds.length = tys.length
  | [], vs, ds, ps, h => by
    obtain ⟨rfl, rfl, rfl⟩ := trodAll_nil h
    rfl
  | t :: tys, vs, ds, ps, h => by
    obtain ⟨v, vs1, d, ds1, a, b, rfl, rfl, rfl, h1, h2⟩ := trodAll_cons h
    simp [trod_len h2]

/-- A law: what the machine says of the call is what the row says. -/
theorem law_contract {H : Type} {enc : TypeId × Value → H} {W : World} {base : Nat} {args : Array Value} {ds gs : List (DataW H)} {before : List MemPlace} {f : FuncId} {fn : Func} {s : ChangeSpec} {tb : TypeId} {apart fresh handsOn again : Bool}
    (hL : plainTys P L = true) (hpar : ∀ t ∈ fn.params.toList, t ∈ L) (hres : fn.resultTypes = #[tb]) (hb : P.underlying tb = some .bool) (hvars : s.vars = []) (hfn : ∀ ds : List (DataW H), ds.length = fn.params.size → s.fn H ds = { results := [.lit (.bool true)], args := ds })
    (hcalls : ∀ xs, HasArgs P fn.params.toList xs → CallsOk P f xs (.bool true))
    (hval : ∀ (j : Nat) t v, fn.params[j]? = some t → args[j]? = some v → Value.okWide P W .any base t v)
    (hW : DataW.Whole enc P fn.params.toList s.vars apart W args.toList ds gs before) (hg : GOk W fun _ => False) :
    Calls P f args W fun e W' => ∃ v, e = .returned v ∧ s.post enc P fn apart fresh handsOn again W args v W' := by
  have hW' := hW
  obtain ⟨p, q, hA, hV, rfl, hfz, hnd⟩ := hW
  rw [hvars] at hV
  obtain ⟨rfl, rfl⟩ := trodVars_none hV
  obtain ⟨xs, hr, hx⟩ := args_rel hL hpar (fun j t v h1 h2 => hval j t v (by simpa using h1) (by simpa using h2)) hA
  have hlen : ds.length = fn.params.size := by
    have := trod_len hA
    simpa using this
  refine ((hcalls xs hx).calls hg hr).mono ?_
  rintro e w' ⟨v, rfl, hbl, hv⟩
  simp only [RelT] at hv
  subst hv
  have hlt := hW'.lt
  have hargs : ∀ sp : Nat → Bool, (∀ x ∈ p, sp x.block = true) → DataW.TrodAll enc P w' 0 sp true fn.params.toList args.toList ds p := fun sp hsp =>
    args_again hL rfl hpar hA (fun x hx => hbl.same (hlt x (by simpa using hx))) hsp
  have hrs : ∀ (b : Nat) (sp : Nat → Bool) (hd : Bool), DataW.TrodAll enc P w' b sp hd fn.resultTypes.toList ((Value.bool true).resultList fn.resultTypes.size) [.lit (.bool true)] [] := fun b sp hd => by
    rw [hres]; exact trodAll_cons_mk (shut_bool hb _) trodAll_mk0
  have he : s.fn H (ds ++ []) = { results := [.lit (.bool true)], args := ds } := by rw [List.append_nil]; exact hfn ds hlen
  have hv0 : ∀ sp : Nat → Bool, DataW.TrodVars enc P w' sp s.vars [] [] := fun sp => by rw [hvars]; rfl
  have hev : (s.fn H (ds ++ [])).vars = [] := by rw [he]
  refine ⟨_, rfl, ds, [], p ++ [], [], p, [], hW', by rw [he]; exact hrs _ _ _, by rw [he]; exact hargs _ (fun x hx => by simpa using hlt x (by simpa using hx)), by rw [hev]; exact hv0 _, hbl.frame _, fun _ => ?_⟩
  refine ⟨ok_one hres rfl (okWide_bool_mk hb _), _, _, ([] ++ p) ++ [], ⟨[] ++ p, [], trodAll_append (hargs _ (fun _ _ => rfl)) (hrs _ _ _), hv0 _, rfl, ?_, ?_⟩, ?_⟩
  · intro b off hp
    rw [hbl.frozen (hlt _ (by simpa using hp))]
    exact hfz b off (by simpa using hp)
  · intro ha
    simpa using hnd ha
  · intro x hx _
    simpa using hx
end

/-- Types of plain data, spelt out. -/
inductive Ty where
  | bool | int (k : IntKind) | str
  | slice (e : Ty)
  | seq (fs : List Ty)

mutual
def Ty.has : Ty → List T → Prop
  | .bool, ts => ∃ b, ts = [.bool b]
  | .int k, ts => ∃ x, ts = [.int k x] ∧ (Lit.int k x).wf = true
  | .str, ts => ∃ s, ts = [.str s] ∧ s.size ≤ maxLen
  | .slice e, ts => ∃ rows, ts = [.sl rows] ∧ rows.length ≤ maxLen ∧ ∀ r ∈ rows, e.has r
  | .seq fs, ts => Ty.hasAll fs ts
def Ty.hasAll : List Ty → List T → Prop
  | [], ts => ts = []
  | t :: tys, ts => ∃ a b, ts = a ++ b ∧ t.has a ∧ Ty.hasAll tys b
end
/-- An argument: a struct's cells stand in a bundle. -/
def Ty.arg : Ty → T → Prop
  | .seq fs, x => ∃ ts, x = .agg ts ∧ Ty.hasAll fs ts
  | ty, x => ty.has [x]
def Ty.args : List Ty → List T → Prop
  | [], xs => xs = []
  | t :: tys, xs => ∃ x xs', xs = x :: xs' ∧ t.arg x ∧ Ty.args tys xs'

def tyOf (P : Program) : Nat → TypeId → Option Ty
  | 0, _ => none
  | n + 1, t =>
    match P.underlying t with
    | some .bool => some .bool
    | some (.int k) => some (.int k)
    | some .string => some .str
    | some (.slice e) => (tyOf P n e).map .slice
    | some (.struct fs) => (tysOf (tyOf P n) (fs.toList.map (·.type))).map .seq
    | some (.array k e) => (tyOf P n e).map fun x => .seq (List.replicate k x)
    | _ => none
where
  tysOf (q : TypeId → Option Ty) : List TypeId → Option (List Ty)
  | [] => some []
  | t :: ts => match q t, tysOf q ts with
    | some x, some xs => some (x :: xs)
    | _, _ => none

section
variable {P : Program}
theorem has_of : ∀ (m n : Nat) (t : TypeId) (ty : Ty) (ts : List T), tyOf P m t = some ty → HasTy P n t ts → ty.has ts := by
  intro m
  induction m with
  | zero => intro n t ty ts h; simp [tyOf] at h
  | succ m ih =>
    intro n t ty ts h hs
    cases n with
    | zero => exact hs.elim
    | succ n =>
      unfold tyOf at h
      unfold HasTy at hs
      split at h
      · rename_i hu; rw [hu] at hs; cases h; simpa [Ty.has] using hs
      · rename_i hu; rw [hu] at hs; cases h; simpa [Ty.has] using hs
      · rename_i hu; rw [hu] at hs; cases h; simpa [Ty.has] using hs
      · rename_i e hu; rw [hu] at hs
        obtain ⟨x, hx, rfl⟩ := Option.map_eq_some_iff.1 h
        obtain ⟨rows, rfl, h1, h2⟩ := hs
        simp only [Ty.has]
        exact ⟨rows, rfl, h1, fun r hr => ih n e x r hx (h2 r hr)⟩
      · rename_i fs hu; rw [hu] at hs
        obtain ⟨x, hx, rfl⟩ := Option.map_eq_some_iff.1 h
        simp only [Ty.has]
        have key : ∀ (tys : List TypeId) (xs : List Ty) (ts : List T), tyOf.tysOf (tyOf P m) tys = some xs → allTys (HasTy P n) tys ts → Ty.hasAll xs ts := by
          intro tys
          induction tys with
          | nil => intro xs ts h hs; simp only [tyOf.tysOf, Option.some.injEq] at h; subst h; simpa [Ty.hasAll, allTys] using hs
          | cons u tys ih2 =>
            intro xs ts h hs
            simp only [tyOf.tysOf] at h
            split at h
            · rename_i y ys hy hys
              cases h
              simp only [allTys] at hs
              obtain ⟨a, b, rfl, h1, h2⟩ := hs
              simp only [Ty.hasAll]
              exact ⟨a, b, rfl, ih n u y a hy h1, ih2 ys b hys h2⟩
            · cases h
        exact key _ _ _ hx hs
      · rename_i k e hu; rw [hu] at hs
        obtain ⟨x, hx, rfl⟩ := Option.map_eq_some_iff.1 h
        simp only [Ty.has]
        have key : ∀ (k : Nat) (ts : List T), allTys (HasTy P n) (List.replicate k e) ts → Ty.hasAll (List.replicate k x) ts := by
          intro k
          induction k with
          | zero => intro ts hs; simpa [Ty.hasAll, allTys] using hs
          | succ k ih2 =>
            intro ts hs
            simp only [List.replicate_succ, allTys] at hs
            obtain ⟨a, b, rfl, h1, h2⟩ := hs
            simp only [List.replicate_succ, Ty.hasAll]
            exact ⟨a, b, rfl, ih n e x a hx h1, ih2 b h2⟩
        exact key k ts hs
      · cases h

theorem arg_of {m n : Nat} {t : TypeId} {ty : Ty} {x : T} (h : tyOf P m t = some ty) (hs : HasArg P n t x) : ty.arg x := by
  cases m with
  | zero => simp [tyOf] at h
  | succ m =>
    have h0 := h
    unfold tyOf at h
    unfold HasArg at hs
    split at h
    · rename_i hu; rw [hu] at hs; cases h; exact has_of _ _ _ _ _ h0 hs
    · rename_i hu; rw [hu] at hs; cases h; exact has_of _ _ _ _ _ h0 hs
    · rename_i hu; rw [hu] at hs; cases h; exact has_of _ _ _ _ _ h0 hs
    · rename_i e hu; rw [hu] at hs
      obtain ⟨y, hy, rfl⟩ := Option.map_eq_some_iff.1 h
      exact has_of _ _ _ _ _ h0 hs
    · rename_i fs hu; rw [hu] at hs
      obtain ⟨y, hy, rfl⟩ := Option.map_eq_some_iff.1 h
      obtain ⟨ts, rfl, h2⟩ := hs
      have := has_of _ _ _ _ _ h0 h2
      simp only [Ty.has] at this
      exact ⟨ts, rfl, this⟩
    · rename_i k e hu; rw [hu] at hs
      obtain ⟨y, hy, rfl⟩ := Option.map_eq_some_iff.1 h
      obtain ⟨ts, rfl, h2⟩ := hs
      have := has_of _ _ _ _ _ h0 h2
      simp only [Ty.has] at this
      exact ⟨ts, rfl, this⟩
    · cases h
theorem args_of {m : Nat} : ∀ {tys : List TypeId} {l : List Ty} {xs : List T}, tyOf.tysOf (tyOf P m) tys = some l → HasArgs P tys xs → Ty.args l xs
  | [], l, xs, h, hs => by simp only [tyOf.tysOf, Option.some.injEq] at h; subst h; exact hs
  | t :: tys, l, xs, h, hs => by
    simp only [tyOf.tysOf] at h
    split at h
    · rename_i y ys hy hys
      cases h
      obtain ⟨x, xs', rfl, ⟨n, h1⟩, h2⟩ := hs
      exact ⟨x, xs', rfl, arg_of hy h1, args_of hys h2⟩
    · cases h
end
end Go.DM
