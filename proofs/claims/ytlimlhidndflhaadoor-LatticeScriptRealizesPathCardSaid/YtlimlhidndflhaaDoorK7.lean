/- Sort of keys: lists of any length, out of the kit's shelf. Conditions: none. -/
import Derived.Test.YtlimlhidndflhaaDoorKb
import Derived.Test.YtlimlhidndflhaaDoorK6l
import Derived.Test.YtlimlhidndflhaaDoorMh
namespace Go.Proofs
open Go.DM Go.DM.Srt
set_option linter.unusedSimpArgs false
set_option linter.unusedVariables false

def cfK (x y : RowN 3) : Int := cmpKey (rowN x) (rowN y)
theorem row3 (x : RowN 3) : ∃ a b c : Int, x.1 = [a, b, c] := by
  obtain ⟨l, hl⟩ := x
  match l, hl with
  | [a, b, c], _ => exact ⟨a, b, c, rfl⟩
theorem good_row (x : RowN 3) : goodK (rowN x) := by
  obtain ⟨a, b, c, h⟩ := row3 x
  exact ⟨a, b, c, by unfold rowN; rw [h]; rfl⟩
theorem row_good {r : List T} (h : goodK r) : ∃ x : RowN 3, rowN x = r := by
  obtain ⟨a, b, c, rfl⟩ := h
  exact ⟨⟨[a, b, c], rfl⟩, rfl⟩
theorem rows_good : ∀ {D : List (List T)}, (∀ x ∈ D, goodK x) → ∃ E : List (RowN 3), E.map rowN = D
  | [], _ => ⟨[], rfl⟩
  | r :: D, h => by
    obtain ⟨x, hx⟩ := row_good (h r (by simp))
    obtain ⟨E, hE⟩ := rows_good fun y hy => h y (List.mem_cons_of_mem _ hy)
    exact ⟨x :: E, by simp [hx, hE]⟩
theorem lt_cfK (x y : RowN 3) : ltOf cfK x y = ltF cmpKey (rowN x) (rowN y) := rfl
theorem swo_cfK : Go.Sort.SWO (ltOf cfK) :=
  ⟨fun x => swoK.irrefl _, fun x y z => swoK.trans _ _ _, fun x y z => swoK.ntrans _ _ _⟩
theorem rowN_inj {k : Nat} {x y : RowN k} (h : rowN x = rowN y) : x = y := by
  apply Subtype.ext
  unfold rowN at h
  have key : ∀ (l m : List Int), l.map tI = m.map tI → l = m := by
    intro l
    induction l with
    | nil => intro m h; cases m with
      | nil => rfl
      | cons b m => cases h
    | cons a l ih => intro m h; cases m with
      | nil => cases h
      | cons b m =>
        simp only [List.map_cons, List.cons.injEq, T.int.injEq, true_and] at h
        rw [h.1, ih m h.2]
  exact key _ _ h
theorem tot_cfK (x y : RowN 3) (h1 : ltOf cfK x y = false) (h2 : ltOf cfK y x = false) : x = y := by
  rw [lt_cfK] at h1 h2
  exact rowN_inj (goodK_ext (good_row x) (good_row y) (eqvK (by simp [eqv, h1, h2])))
theorem sortN_eq (E : List (RowN 3)) : isort (ltF cmpKey) (E.map rowN) = (sortN cfK E).map rowN := by
  refine isort_eq swoK ?_ fun z => ?_
  · unfold Sorted
    rw [List.pairwise_map]
    have h := List.pairwise_mergeSort (le := fun x y => !(ltOf cfK) y x) (fun a b c h1 h2 => by
      simp only [Bool.not_eq_true'] at h1 h2 ⊢
      exact swo_cfK.ntrans _ _ _ h2 h1) (fun a b => by
      cases e : ltOf cfK b a with
      | false => rfl
      | true =>
        cases e2 : ltOf cfK a b with
        | false => rfl
        | true =>
          have := swo_cfK.trans _ _ _ e e2
          rw [swo_cfK.irrefl] at this
          cases this) E
    exact h.imp fun {a b} hab => by rw [Bool.not_eq_true'] at hab; exact hab
  · have hp : ((sortN cfK E).map rowN).Perm (E.map rowN) := (List.mergeSort_perm E _).map _
    have h1 := hp.filter (eqv (ltF cmpKey) z)
    have hall : ∀ w ∈ (E.map rowN).filter (eqv (ltF cmpKey) z), ∀ u ∈ (E.map rowN).filter (eqv (ltF cmpKey) z), w = u := by
      intro w hw u hu
      rw [List.mem_filter] at hw hu
      obtain ⟨x, _, rfl⟩ := List.mem_map.1 hw.1
      obtain ⟨y, _, rfl⟩ := List.mem_map.1 hu.1
      exact goodK_ext (good_row x) (good_row y) ((eqvK hw.2).symm.trans (eqvK hu.2))
    generalize (E.map rowN).filter (eqv (ltF cmpKey) z) = l at h1 hall
    generalize ((sortN cfK E).map rowN).filter (eqv (ltF cmpKey) z) = l' at h1
    apply List.ext_getElem h1.length_eq
    intro i q1 q2
    exact hall _ (h1.subset (List.getElem_mem q1)) _ (List.getElem_mem q2)
theorem cmpK_calls [Laid] (x y : RowN 3) : CallsOk Tryd.prog 25 [.agg (rowN x), .agg (rowN y)] (tI (cfK x y)) := by
  obtain ⟨a, b, c, h⟩ := good_row x
  obtain ⟨d, e, f, k⟩ := good_row y
  unfold cfK
  rw [h, k]
  exact t33 a b c d e f
theorem t32 (D : List (List T)) {objs : Obs} {r ver e : Nat} (hob : objs r = some (.arr ver e 3 D)) (hrows : ∀ x ∈ D, goodK x) (h4 : D.length ≤ sortBound) :
    CallsS Tryd.prog 24 [.aref r ver, .v (.fn (.func 25) [])] objs ⟨True, .v (.tup []), setO objs r (.arr ver e 3 (isort (ltF cmpKey) D))⟩ := by
  obtain ⟨E, rfl⟩ := rows_good hrows
  rw [sortN_eq]
  unfold sortBound at h4
  exact sort_callsS (k := 3) sortLay (by omega) (fun w => Tryd.isAgg68 w) (fun w => Tryd.sizeOf68 w) (@cmpK_calls Laid.none) swo_cfK tot_cfK E hob (by simp at h4; omega)
def k32 (good : List T → Prop) (cmpF : List T → List T → Int) : List DV → Obs → SRes
  | [.aref r ver, .v (.fn (.func c) caps)], objs => match objs r with
    | some (.arr ver' e sz D) => ⟨ver = ver' ∧ sz = 3 ∧ c = 25 ∧ caps = [] ∧ (∀ x ∈ D, good x) ∧ D.length ≤ sortBound ∧ D.length ≤ 1000000000,
        .v (.tup []), setO objs r (.arr ver e 3 (isort (ltF cmpF) D))⟩
    | _ => ⟨False, .undef, objs⟩
  | _, objs => ⟨False, .undef, objs⟩
theorem ok32 {l : List (Nat × DM.Spec)} (h : EnvOk Tryd.prog (envOf l)) : EnvOk Tryd.prog (envOf ((24, specS (k32 goodK cmpKey)) :: l)) := by
  refine EnvOk.consS h ?_
  intro args objs h
  unfold k32 at h ⊢
  split at h
  · split at h
    · rename_i c caps _ ver' e sz D hob
      obtain ⟨rfl, rfl, rfl, rfl, h1, h4, h5⟩ := h
      refine ⟨fun N hN => ?_, fun k hk => setO_none hob hk⟩
      simp only [hob]
      exact (t32 D hob h1 h4).of rfl rfl
    · exact h.elim
  · exact h.elim
end Go.Proofs
