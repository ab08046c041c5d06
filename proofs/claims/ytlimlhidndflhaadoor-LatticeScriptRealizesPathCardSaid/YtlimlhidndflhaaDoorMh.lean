/- The D-machine: slices.SortFunc at rows of whole numbers, out of the kit's shelf. Conditions: none. -/
import Derived.Test.YtlimlhidndflhaaDoorMe
import Derived.Test.YtlimlhidndflhaaDoorMg
import Derived.Shelf.SlSortCmp.NoneTotal
namespace Go.DM
open Go.RowKit
set_option linter.unusedSimpArgs false
set_option linter.unusedVariables false
set_option linter.unusedSectionVars false
variable [Laid]

abbrev tI (n : Int) : T := .int .i64 n
/-- A row of k whole numbers. -/
abbrev RowN (k : Nat) : Type := {l : List Int // l.length = k}
instance (k : Nat) : Inhabited (RowN k) := ⟨⟨List.replicate k 0, by simp⟩⟩
def encN {k : Nat} (x : RowN k) : List Value := x.1.map (Value.int .i64)
def rowN {k : Nat} (x : RowN k) : List T := x.1.map tI

theorem beld_grow {w w' : World} (h : BelD w.heap.size w w') : ∃ q os', w' = Go.Sort.grow (w.drewN q) os' := by
  refine ⟨w'.drawn - w.drawn, w'.heap.extract w.heap.size w'.heap.size, ?_⟩
  obtain ⟨⟨h1, h2, h3, h4, h5⟩, h6⟩ := h
  cases w with
  | mk heap tape drawn os output =>
    cases w' with
    | mk heap' tape' drawn' os' output' =>
      simp only at h1 h2 h3 h4 h5 h6
      subst h1 h2 h3
      simp only [Go.Sort.grow, World.drewN, World.mk.injEq, and_true, true_and]
      refine ⟨?_, by omega⟩
      apply Array.ext_getElem?
      intro k
      rw [Array.getElem?_append]
      split
      · rename_i hk; exact h5 k hk
      · rename_i hk
        rw [Array.getElem?_extract]
        split
        · rw [show heap.size + (k - heap.size) = k by omega]
        · rename_i h7; rw [Array.getElem?_eq_none (by omega)]
theorem relL_ints {w : World} {W : Nat → Prop} : ∀ l : List Int, RelL w W (l.map tI) (l.map (Value.int .i64))
  | [] => by simp [RelL]
  | n :: l => by
    simp only [List.map_cons, RelL]
    exact ⟨_, _, rfl, rfl, by simp [RelT], relL_ints l⟩
theorem ints_of_relL {w : World} {W : Nat → Prop} : ∀ {l : List Int} {vs : List Value}, RelL w W (l.map tI) vs → vs = l.map (Value.int .i64)
  | [], vs, h => by simpa [RelL] using h
  | n :: l, vs, h => by
    simp only [List.map_cons, RelL] at h
    obtain ⟨v, vs', rfl, _, h1, h2⟩ := h
    simp only [RelT] at h1
    rw [h1, ints_of_relL h2]; rfl
theorem flatten_get {α : Type} {sz : Nat} : ∀ {rows : List (List α)} {j : Nat}, (∀ r ∈ rows, r.length = sz) → rows.flatten[j]? = (rows[j / sz]?).bind fun r => r[j % sz]?
  | [], j, _ => by simp
  | r :: rows, j, h => by
    have hr := h r (by simp)
    by_cases hs : sz = 0
    · subst hs
      have : ∀ x ∈ r :: rows, x = [] := fun x hx => List.length_eq_zero_iff.1 (h x hx)
      have h2 : (r :: rows).flatten = [] := by
        rw [List.flatten_eq_nil_iff]; exact this
      rw [h2]
      simp [this r (by simp)]
    rw [List.flatten_cons, List.getElem?_append]
    split
    · rename_i hj
      rw [hr] at hj
      rw [Nat.div_eq_of_lt hj, Nat.mod_eq_of_lt hj]; simp
    · rename_i hj
      rw [hr] at hj
      rw [hr, flatten_get fun x hx => h x (by simp [hx])]
      obtain ⟨i, rfl⟩ : ∃ i, j = i + sz := ⟨j - sz, by omega⟩
      rw [Nat.add_sub_cancel, Nat.add_div_right i (by omega), Nat.add_mod_right]
      rw [List.getElem?_cons_succ]
theorem flatK_ints {k : Nat} (D : List (RowN k)) : (Go.Sort.flatK encN k D.toArray).toList = ((D.map (·.1)).flatten).map (Value.int .i64) := by
  have hl : ∀ r ∈ D.map (·.1), r.length = k := by
    intro r hr
    obtain ⟨x, _, rfl⟩ := List.mem_map.1 hr
    exact x.2
  have hflen : (D.map (·.1)).flatten.length = D.length * k := by
    clear hl
    induction D with
    | nil => simp
    | cons x D ih => simp only [List.map_cons, List.flatten_cons, List.length_append, x.2, ih, List.length_cons, Nat.add_mul]; omega
  apply List.ext_getElem?
  intro j
  by_cases hj : j < D.length * k
  · have hk0 : 0 < k := by
      cases k with
      | zero => simp at hj
      | succ k => omega
    have h1 : j / k < D.length := Nat.div_lt_of_lt_mul (by rwa [Nat.mul_comm])
    have h2 : j % k < k := Nat.mod_lt _ hk0
    have hsz : j < (Go.Sort.flatK encN k D.toArray).size := by simpa using hj
    rw [List.getElem?_map, flatten_get hl, List.getElem?_map, List.getElem?_eq_getElem h1]
    simp only [Option.map_some, Option.bind_some]
    have h3 := Go.Sort.get_flatK encN k D.toArray j (by simpa using hj)
    rw [Array.getElem?_toList, Array.getElem?_eq_getElem hsz]
    rw [getElem!_pos _ j hsz] at h3
    rw [h3]
    have h4 : D.toArray[j / k]! = D[j / k] := by rw [getElem!_pos _ _ (by simpa using h1)]; simp
    rw [h4]
    have h5 : j % k < (D[j / k]).1.length := by rw [(D[j / k]).2]; exact h2
    unfold encN
    rw [getElem!_pos _ _ (by simpa using h5)]
    simp [h5]
  · rw [List.getElem?_eq_none (by simpa using hj), List.getElem?_eq_none (by rw [List.length_map, hflen]; omega)]
theorem rowN_flat {k : Nat} (D : List (RowN k)) : (D.map rowN).flatten = ((D.map (·.1)).flatten).map tI := by
  induction D with
  | nil => rfl
  | cons x D ih => simp only [List.map_cons, List.flatten_cons, ih, List.map_append]; rfl
theorem setO_self' {objs : Obs} {r : Nat} {o : Ob} (h : objs r = some o) : setO objs r o = objs := by
  funext k
  rw [setO_apply]
  split
  · rename_i e; rw [e, h]
  · rfl

theorem cmp_lays {P : Program} {g : FuncId} {k : Nat} {x y : RowN k} {c : Int} (hg : @CallsOk Laid.none P g [.agg (rowN x), .agg (rowN y)] (tI c)) (w : World) :
    Calls P g (#[.agg (encN x).toArray, .agg (encN y).toArray] ++ #[]) w fun e w' => e = .returned (.int .i64 c) ∧ ∃ q os', w' = Go.Sort.grow (w.drewN q) os' := by
  rw [Array.append_empty]
  refine (@CallsOk.calls Laid.none P g _ _ hg w #[.agg (encN x).toArray, .agg (encN y).toArray] (GOk.empty _ _) ?_).mono ?_
  · show RelA w (fun _ => False) [.agg (rowN x), .agg (rowN y)] [.agg (encN x).toArray, .agg (encN y).toArray]
    simp only [RelA]
    exact ⟨_, _, rfl, ⟨_, rfl, relL_ints x.1⟩, _, _, rfl, ⟨_, rfl, relL_ints y.1⟩, rfl⟩
  · rintro e' w' ⟨v, rfl, hb, hv⟩
    simp only [RelT] at hv
    subst hv
    exact ⟨rfl, beld_grow hb⟩
/-- What sorting leaves. -/
def sortN {k : Nat} (cf : RowN k → RowN k → Int) (D : List (RowN k)) : List (RowN k) := D.mergeSort fun x y => !(Go.Proofs.ltOf cf) y x

open Go.Proofs Go.Sort in
theorem sort_callsS {P : Program} {ρ : Go.Shelf.Ren} (Lay : SlLaysF0.n6 P ρ) {k : Nat} (hk : 0 < k) (aE : ∀ w, (isAgg (ρ.t 24)).run P w = .ok true w) (zE : ∀ w, (Go.sizeOf (ρ.t 24)).run P w = .ok k w)
    {g : FuncId} {cf : RowN k → RowN k → Int} (hg : ∀ x y : RowN k, @CallsOk Laid.none P g [.agg (rowN x), .agg (rowN y)] (tI (cf x y))) (hO : Go.Sort.SWO (ltOf cf)) (hT : ∀ x y, (ltOf cf) x y = false → (ltOf cf) y x = false → x = y)
    (D : List (RowN k)) {objs : Obs} {r ver e : Nat} (hob : objs r = some (.arr ver e k (D.map rowN))) (hlen : D.length < 4611686018427387904) :
    CallsS P (ρ.f 6) [.aref r ver, .v (.fn (.func g) [])] objs ⟨True, .v (.tup []), setO objs r (.arr ver e k ((sortN cf D).map rowN))⟩ := by
  have eg : ∀ args w, (callFunc g args).run P w = .ok (.enter g args) w := by
    obtain ⟨fn, h1, h2, h3⟩ := @CallsOk.entry Laid.none _ _ _ _ (hg default default)
    cases hb : fn.body with
    | none => rw [hb] at h3; cases h3
    | some c => exact enters_of h1 (by simpa using h2) hb
  refine ⟨?_, fun base W M w0 w L vals hRO hr => ?_⟩
  · obtain ⟨nm, hn, hf⟩ := Lay.f6
    exact ⟨_, hf, by simpa using hn, rfl⟩
  obtain ⟨hr1, hr2⟩ := hr
  obtain ⟨x, f, hvl⟩ : ∃ x f, vals.toList = [x, f] := by
    match hvl : vals.toList, hr1 with
    | [x, f], _ => exact ⟨x, f, rfl⟩
  have hvals : vals = #[x, f] := Array.ext' (by simpa using hvl)
  subst hvals
  have hx := hr2 0 _ x rfl rfl
  have hf := hr2 1 _ f rfl rfl
  simp only [RelD, RelT] at hf
  obtain ⟨cv, rfl, hcv⟩ := hf
  have hcv : cv = #[] := by
    simp only [RelL] at hcv
    exact Array.ext' (by simpa using hcv)
  subst hcv
  simp only [RelD] at hx
  obtain ⟨_, ver', e', sz', rows', hob', hver, hxe⟩ := hx
  rw [hob] at hob'
  cases hob'
  have hxe := hxe rfl
  subst hxe
  obtain ⟨hsz, hrows, hm, hal⟩ := hRO.ob r _ hob
  have hsl : (sortN cf D).length = D.length := List.length_mergeSort ..
  rcases hal with ⟨hnil, a, ha⟩ | ⟨g', cap, cur, hv, hp, hh, hle, hcap, hcur, hrel⟩
  · rw [ha]
    refine (AnyF.slices_SortFunc_none Lay a 0 _ w).mono ?_
    rintro e' w' ⟨rfl, rfl⟩
    have hD : D = [] := by simpa using hnil
    subst hD
    have hs : sortN cf [] = [] := by simp [sortN]
    rw [hs, setO_self' hob]
    exact ⟨_, L, rfl, hRO, Adv.refl_of_keeps (Keeps.refl _ _), by simp [RelD, RelT, RelA]⟩
  · rw [hv]
    have hgl : g' < w.heap.size := (Array.getElem?_eq_some_iff.1 hh).1
    rw [rowN_flat] at hrel
    have hcells := ints_of_relL hrel
    rw [← flatK_ints] at hcells
    have hcellG : ∀ j, w.cell? ⟨g', j, none⟩ = cur[j]? := by
      intro j
      simp only [World.cell?, hh]
      rfl
    have hH : HoldsK encN k w g' 0 D.toArray := by
      intro j hj
      refine ⟨?_, ?_⟩
      · rw [Nat.zero_add, hcellG]
        have h1 := congrArg (fun l : List Value => l[j]?) hcells
        have hj2 : j < (D.map rowN).length * k := by simpa using hj
        rw [List.getElem?_take, if_pos hj2, Array.getElem?_toList, Array.getElem?_toList, Array.getElem?_eq_getElem hj] at h1
        rw [h1, getElem!_pos _ j hj]; rfl
      · simp only [World.frozen?, hh]
        simp
    have hlays : CmpLays P g #[] encN k cf g' 0 D.toArray.size w := by
      intro m os dk hdk x y
      obtain ⟨w1, hw1⟩ : ∃ w1, sortWorldK encN k w g' 0 m dk os = w1 := ⟨_, rfl⟩
      rw [hw1]
      exact cmp_lays (hg x y) w1
    have hcalls := AnyQ.slices_SortFunc_total Lay k aE zE encN (fun x => by simp [encN, x.2]) (fun x v hv => by
      simp only [encN, List.mem_map] at hv
      obtain ⟨n, _, rfl⟩ := hv
      rfl) cf hO g #[] g' 0 cap D.toArray w eg hlays hH hgl (by simpa using hlen) hT
    rw [show (D.map rowN).length = D.toArray.size by simp]
    refine hcalls.mono ?_
    rintro e' w' ⟨rfl, n, os, rfl⟩
    refine ⟨_, L, rfl, ?_⟩
    obtain ⟨S, hS⟩ : ∃ S, sortN cf D = S := ⟨_, rfl⟩
    have hS2 : (D.toArray.toList.mergeSort fun x y => !(ltOf cf) y x).toArray = S.toArray := by rw [← hS]; rfl
    rw [hS2]
    rw [hS] at hsl ⊢
    obtain ⟨F, hF⟩ : ∃ F, flatK encN k S.toArray = F := ⟨_, rfl⟩
    have hFs : F.size = D.length * k := by rw [← hF]; simp [hsl]
    have hFl : F.toList = ((S.map (·.1)).flatten).map (Value.int .i64) := by rw [← hF]; exact flatK_ints S
    have hcs : (D.map rowN).length * k ≤ cur.size := by rw [hcur]; exact Nat.mul_le_mul_right k hle
    have hcs2 : D.length * k ≤ cur.size := by simpa using hcs
    have heap1 : ∀ b : Nat, b < w.heap.size → (sortWorldK encN k w g' 0 n S.toArray os).heap[b]? = if b = g' then some (.cells (Go.Sort.putCells id 0 F cur) e (0, 0)) else w.heap[b]? := by
      intro b hb
      have hb2 : b < (putRowK encN k (Go.Sort.ahead w n) g' 0 S.toArray).heap.size := by
        simp [Go.Sort.putRowK, Go.Sort.putRow, Go.Sort.mapBlock, Go.Sort.ahead, hb]
      simp only [sortWorldK, Go.Sort.grow]
      rw [Array.getElem?_append_left hb2]
      simp only [putRowK, Go.Sort.putRow, Go.Sort.mapBlock, Go.Sort.ahead, hF, Array.getElem?_modify]
      by_cases e1 : b = g'
      · subst e1
        rw [if_pos rfl, if_pos rfl, hh]
        rfl
      · rw [if_neg (fun h => e1 h.symm), if_neg e1]
    have hsize : w.heap.size ≤ (sortWorldK encN k w g' 0 n S.toArray os).heap.size := by
      simp [sortWorldK, Go.Sort.grow, putRowK, Go.Sort.putRow, Go.Sort.mapBlock, Go.Sort.ahead]
    have hown : L.own r (.arr ver e k (D.map rowN)) = some g' := by simp [Loc.own, hv, capBlock, Nat.pos_iff_ne_zero.1 hp]
    have hput : ∀ j, (Go.Sort.putCells id 0 F cur)[j]? = if j < F.size then F[j]? else cur[j]? := by
      intro j
      simp only [Go.Sort.putCells, Array.getElem?_mapIdx]
      by_cases hj : j < F.size
      · rw [if_pos hj, Array.getElem?_eq_getElem (show j < cur.size by omega), Array.getElem?_eq_getElem hj]
        simp [hj]
      · rw [if_neg hj]
        cases cur[j]? with
        | none => rfl
        | some v => simp; intro h; omega
    have hfr : Fr base M w0 (sortWorldK encN k w g' 0 n S.toArray os) := by
      refine hRO.fr.trans ⟨rfl, rfl, rfl, Nat.le_trans hRO.fr.size0 hRO.fr.size, hsize, fun b hb hm' => ?_, by simp [sortWorldK, Go.Sort.grow, putRowK, Go.Sort.putRow, Go.Sort.mapBlock, Go.Sort.ahead]⟩
      have hbw : b < w.heap.size := Nat.lt_of_lt_of_le hb (Nat.le_trans hRO.fr.size0 hRO.fr.size)
      rw [heap1 b hbw, if_neg]
      rintro rfl
      rcases hm b (by simp [hv, capBlock, Nat.pos_iff_ne_zero.1 hp]) with h | h
      · omega
      · exact hm' h
    have hres := RelO.put (r := r) (o' := .arr ver e k (S.map rowN)) (L' := L) hRO hfr hsize (fun _ _ => ⟨rfl, rfl⟩) rfl
      (fun b hb hne => by rw [heap1 b hb, if_neg]; rintro rfl; exact hne _ hob hown)
      (fun b hb => .inl ⟨_, hob, hb⟩) (fun o' ho' hk' => by rw [hob] at ho'; cases ho'; exact absurd rfl hk')
      (fun ver' e' sz' rows' h => by rw [hob] at h; cases h; exact ⟨ver, e, k, _, rfl, Nat.le_refl _, fun _ => ⟨rfl, rfl, by simp [hsl]⟩⟩)
      (fun adv => by
        refine ⟨hsz, fun x hx => ?_, hm, .inr ⟨g', cap, Go.Sort.putCells id 0 F cur, by rw [hv]; simp [hsl], hp, by rw [heap1 g' hgl, if_pos rfl], by simpa [hsl] using hle, hcap, by simpa [Go.Sort.putCells] using hcur, ?_⟩⟩
        · obtain ⟨y, _, rfl⟩ := List.mem_map.1 hx
          simp [rowN, y.2]
        · rw [rowN_flat]
          have e1 : (Go.Sort.putCells id 0 F cur).toList.take ((S.map rowN).length * k) = ((S.map (·.1)).flatten).map (Value.int .i64) := by
            rw [← hFl]
            apply List.ext_getElem?
            intro j
            rw [List.getElem?_take, List.length_map, hsl, Array.getElem?_toList, Array.getElem?_toList, hput, hFs]
            by_cases hj : j < D.length * k
            · simp [hj]
            · rw [if_neg hj, Array.getElem?_eq_none (by omega)]
          rw [e1]
          exact relL_ints _)
    rw [show putO objs (some (r, .arr ver e k (S.map rowN))) = setO objs r (.arr ver e k (S.map rowN)) from rfl] at hres
    exact ⟨hres.1, hres.2, by simp [RelD, RelT, RelA]⟩
end Go.DM
