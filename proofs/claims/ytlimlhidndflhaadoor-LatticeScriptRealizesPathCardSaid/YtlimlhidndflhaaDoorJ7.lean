/- Build. Conditions: none. -/
import Derived.Test.YtlimlhidndflhaaDoorK7
namespace Go.Proofs
open Go.DM Go.DM.Srt
set_option linter.unusedSimpArgs false
set_option linter.unusedVariables false

def k30 : List DV → Obs → SRes
  | [.ptr b 0, .v (.int .i64 i)], objs =>
    ⟨objs b = some (.box (bcells (decB objs b).1 (decB objs b).2)) ∧ objs (decB objs b).2 = some (mapOb (decMap objs (decB objs b).2)) ∧ 0 ≤ i ∧ i ≤ (decB objs b).1.columns.length ∧ inOk (decB objs b).1, .v (.tup []),
      setO objs (decB objs b).2 (mapOb (addAll (decMap objs (decB objs b).2) (fromL (decB objs b).1 i.toNat)))⟩
  | _, objs => ⟨False, .undef, objs⟩
theorem k30_eq {objs : Obs} {b m : Nat} {x : Input} {al : List Arc} {i : Nat} (h : objs b = some (.box (bcells x m))) (hm : objs m = some (mapOb al)) :
    k30 [.ptr b 0, .v (ti i)] objs = ⟨i ≤ x.columns.length ∧ inOk x, .v (.tup []), setO objs m (mapOb (addAll al (fromL x i)))⟩ := by
  simp only [k30, decB_eq h, h, decMap_eq hm, hm, Int.toNat_natCast, SRes.mk.injEq, and_self, and_true, true_and, eq_iff_iff, Int.ofNat_le, Int.natCast_nonneg]

abbrev Γ7 : Env := envOf [(22, specS k30), (24, specS (k32 goodK cmpKey)), (23, specS k31), (21, specF pre29 fn29 3 1)]
theorem ok7 : EnvOk Tryd.prog Γ7 := by
  refine EnvOk.consS (ok32 (EnvOk.consS (EnvOk.consF EnvOk.nil ?_) ?_)) ?_
  · rintro ts ⟨v, n, rfl, h1, h2⟩
    have := t29 v n h1 h2
    simpa [fn29, intsT] using this
  · exact (ok5 23 (specS k31) rfl).st k31 rfl
  · intro args objs h
    unfold k30 at h ⊢
    split at h
    · rename_i objs' b i
      obtain ⟨hb, hm, h1, h2, h3⟩ := h
      obtain ⟨i, rfl⟩ := Int.eq_ofNat_of_zero_le h1
      refine ⟨fun N hN => ?_, fun r hr => setO_none hm hr⟩
      exact CallsS.of (t30 hN hb hm (by omega) h3) (by simp) (by simp)
    · exact h.elim

def d12r8R : List RO := [
  ⟨.addOff 2 (.tmp 5), (some 36), none, [], none⟩,
  ⟨.load 1 false (.tmp 36), (some 37), none, [0], none⟩,
  ⟨.mov (.tmp 6), (some 38), none, [], none⟩,
  ⟨.bin .mul (.con (.v (.int .i64 2))) (.tmp 38), (some 39), none, [2], none⟩,
  ⟨.mov (.tmp 3), (some 40), none, [], none⟩,
  ⟨.mov (.tmp 6), (some 41), none, [], none⟩,
  ⟨.mov (.tmp 4), (some 42), none, [], none⟩,
  ⟨.callR 23 [(.tmp 40), (.tmp 41), (.tmp 42)], (some 43), none, [4, 5, 6], none⟩,
  ⟨.mov (.tmp 43), (some 35), none, [7], none⟩,
  ⟨.extract 0 (.tmp 35), (some 44), none, [8], none⟩,
  ⟨.extract 1 (.tmp 35), (some 45), none, [8], none⟩,
  ⟨.idxAddr 1 (.tmp 37) (.tmp 39), (some 46), none, [1, 3, 0, 1, 2, 3, 4, 5, 6, 7, 8, 9], none⟩,
  ⟨.store 1 (.tmp 46) (.tmp 44), none, none, [11, 9, 7, 0, 1, 2, 3, 4, 5, 6, 7, 8, 9], none⟩]
theorem k31_read {objs : Obs} {b m : Nat} {x : Input} {i j : Nat} (h : objs b = some (.box (bcells x m))) :
    readOk k31 [.ptr b 0, .v (ti i), .v (ti j)] objs = (i ≤ j ∧ j ≤ x.columns.length ∧ delOk x.columns) ∧
      (k31 [.ptr b 0, .v (ti i), .v (ti j)] (restr objs [.ptr b 0, .v (ti i), .v (ti j)])).val = .v (.tup [ti (delCost ((x.columns.take j).drop i) 0), .sl (opsT (dels (j - i)))]) := by
  have hr : restr objs [.ptr b 0, .v (ti i), .v (ti j)] b = some (.box (bcells x m)) := by simp [restr, namesL, names, h]
  refine ⟨?_, by rw [k31_eq hr]⟩
  unfold readOk
  apply propext
  constructor
  · intro H
    have := H objs (fun _ _ => rfl)
    rw [k31_eq h] at this
    exact this.1
  · intro H o ho
    have hb : o b = some (.box (bcells x m)) := by rw [ho b (by simp [namesL, names]), h]
    rw [k31_eq hb, k31_eq hr]
    exact ⟨H, rfl, rfl⟩

/-- The arcs from the first states. -/
def allN (x : Input) (y : Nat) : List Arc := (List.range y).flatMap (fromL x)
theorem allN_succ (x : Input) (y : Nat) : allN x (y + 1) = allN x y ++ fromL x y := by simp [allN, List.range_succ]
def finRows (x : Input) (n y : Nat) : List (List T) := (List.range n).map fun s => [ti (if s % 2 = 0 ∧ s / 2 < y then delC x (s / 2) x.columns.length else 1099511627776)]
theorem finRows_set (x : Input) {n y : Nat} (h : 2 * y < n) : (finRows x n y).set (2 * y) [ti (delC x y x.columns.length)] = finRows x n (y + 1) := by
  apply List.ext_getElem
  · simp [finRows]
  · intro k h1 h2
    rw [List.getElem_set]
    simp only [finRows, List.getElem_map, List.getElem_range]
    split
    · rename_i e
      subst e
      rw [if_pos (by omega), show 2 * y / 2 = y by omega]
    · rename_i e
      by_cases hk : k % 2 = 0 ∧ k / 2 < y
      · rw [if_pos hk, if_pos (by omega)]
      · rw [if_neg hk, if_neg (by omega)]
theorem finRows_len (x : Input) (n y : Nat) : (finRows x n y).length = n := by simp [finRows]
theorem finRows_zero (x : Input) (n : Nat) : finRows x n 0 = List.replicate n [ti 1099511627776] := by
  apply List.ext_getElem
  · simp [finRows]
  · intro k h1 h2
    simp [finRows]

theorem corOb_box (a b : Obs) (σ : Nat → Nat) (cs cs' : List DV) : corOb a b σ (.box cs) (.box cs') = corDs a b σ cs cs' := rfl
theorem corOb_arr (a b : Obs) (σ : Nat → Nat) (v v' e e' sz sz' : Nat) (rows rows' : List (List T)) : corOb a b σ (.arr v e sz rows) (.arr v' e' sz' rows') = (e = e' ∧ sz = sz' ∧ rows = rows') := rfl
theorem corOb_mapOb (a b : Obs) (al : List Arc) : corOb a b id (mapOb al) (mapOb al) := by
  simp only [mapOb, corOb]
  exact ⟨trivial, trivial, trivial, corEs_self fun e he => by obtain ⟨x, hx⟩ := arcs_entries al e he; rw [hx]; simp⟩
theorem entries_mem {al : List Arc} {e : Nat × T × DV} (h : e ∈ entries al) : ∃ i, i < al.length ∧ e = (i, (al.getD i default).key, .v (.agg (al.getD i default).enc)) := by
  obtain ⟨i, hi, rfl⟩ := List.getElem_of_mem h
  rw [entries_len] at hi
  refine ⟨i, hi, ?_⟩
  have := entries_get al i
  rw [List.getElem?_eq_getElem (by rw [entries_len]; exact hi), List.getElem?_eq_getElem hi] at this
  simp only [Option.map_some, Option.some.injEq] at this
  rw [this]
  simp [List.getD, hi]
theorem entries_find {al : List Arc} {i : Nat} (h : i < al.length) : (entries al).find? (fun e => e.1 == i) = some (i, (al.getD i default).key, .v (.agg (al.getD i default).enc)) := by
  rw [List.find?_eq_some_iff_getElem]
  have hg : ∀ (j : Nat) (hj : j < (entries al).length), (entries al)[j] = (j, (al.getD j default).key, .v (.agg (al.getD j default).enc)) := by
    intro j hj
    rw [entries_len] at hj
    have := entries_get al j
    rw [List.getElem?_eq_getElem (by rw [entries_len]; exact hj), List.getElem?_eq_getElem hj] at this
    simp only [Option.map_some, Option.some.injEq] at this
    rw [this]
    simp [List.getD, hj]
  refine ⟨by simp, i, by rw [entries_len]; exact h, hg _ _, fun j hj => ?_⟩
  rw [hg]
  simp
  omega
theorem nodup_len : ∀ (n : Nat) {l : List Nat}, l.Nodup → (∀ i ∈ l, i < n) → l.length ≤ n
  | 0, l, _, h => by cases l with
    | nil => simp
    | cons a l => exact absurd (h a (by simp)) (by omega)
  | n + 1, l, hn, h => by
    by_cases hm : n ∈ l
    · have h1 := List.length_erase_of_mem hm
      have h2 := nodup_len n (l := l.erase n) (hn.erase n) (fun i hi => by
        have := h i (List.mem_of_mem_erase hi)
        have hne : i ≠ n := fun e => by subst e; exact (List.Nodup.not_mem_erase hn) hi
        omega)
      omega
    · have := nodup_len n hn (fun i hi => by
        have := h i hi
        have hne : i ≠ n := fun e => hm (e ▸ hi)
        omega)
      omega
theorem corEs_entries (a b : Obs) (al : List Arc) : corEs a b id (entries al) (entries al) := corEs_self fun e he => by obtain ⟨x, hx⟩ := arcs_entries al e he; rw [hx]; simp
theorem rows_take {α : Type} {f : α → List T} {l : List α} {y : Nat} {a : α} (h : y < l.length) (ha : l[y] = a) : (l.take (y + 1)).map f = (l.take y).map f ++ [f a] := by
  rw [List.take_add_one, List.getElem?_eq_getElem h, ha]; simp
def arcsAll (x : Input) : List Arc := addAll [] (allN x (x.columns.length + 1))
def finals (x : Input) : List Int := (List.range (2 * x.columns.length + 1)).map fun s => if s % 2 = 0 then delC x (s / 2) x.columns.length else 1099511627776
/-- What Build returns. -/
def buildL (x : Input) : Lattice := ⟨2 * x.columns.length + 1, sortArcs (arcsAll x), finals x⟩
theorem finRows_all (x : Input) : finRows x (2 * x.columns.length + 1) (x.columns.length + 1) = intsT (finals x) := by
  simp only [finRows, finals, intsT, List.map_map]
  apply List.map_congr_left
  intro s hs
  simp only [List.mem_range] at hs
  by_cases h : s % 2 = 0
  · simp only [Function.comp_apply, h, if_true, true_and]
    rw [if_pos (by omega)]
  · simp [h]
@[simp] theorem isMap_mapOb (al : List Arc) : isMap (some (mapOb al)) := by simp [isMap, mapOb]

set_option maxHeartbeats 4000000 in
theorem t12 (x : Input) (hx : inOk x) (hb1 : (arcsAll x).length ≤ sortBound) (hb2 : (arcsAll x).length ≤ 1000000000) : CallsOk Tryd.prog 6 [x.enc] (buildL x).enc := by
  have hΓ := ok7
  have hl := hx.1.1
  refine c12.ok (by simp) (initSt_sat ?_)
  simp [Input.enc]
  refine SatD.regSeq hΓ follows [1, 2] ?_
  simp [d12r0]
  refine SatD.regSeq hΓ follows [1, 2, 3] ?_
  simp [d12r1]
  refine SatD.regSeq hΓ follows [2, 3, 4] ?_
  simp [d12r2]
  obtain ⟨n2, hn2⟩ : ∃ n, 2 * x.columns.length + 1 = n := ⟨_, rfl⟩
  have w1 : IntKind.i64.wrap (2 * (x.columns.length : Int)) = 2 * x.columns.length := wrap_id (by omega)
  have w2 : IntKind.i64.wrap (2 * (x.columns.length : Int) + 1) = (n2 : Int) := by rw [wrap_id (by omega)]; omega
  refine SatD.regASeq hΓ follows (rs := d12r3S) (.inr ⟨_, rfl⟩) (by kernel_rfl) [2, 3, 4, 5] ?_
  simp [d12r3S, w1, w2, pre29, fn29, chunk]
  refine ⟨⟨1099511627776, n2, ⟨rfl, rfl⟩, by omega, by omega⟩, ?_⟩
  obtain ⟨n, hn⟩ : ∃ n, x.columns.length = n := ⟨_, rfl⟩
  rw [hn] at hn2 hl
  refine SatD.seq ?_
  have w3 : IntKind.i64.wrap ((n : Int) + 1) = ((n + 1 : Nat) : Int) := by rw [wrap_id (by omega)]; omega
  refine SatD.regSeq hΓ follows [2, 3, 4, 5, 28, 29] ?_
  simp [d12r4, hn, w3]
  obtain ⟨n1, hn1⟩ : ∃ n1, n + 1 = n1 := ⟨_, rfl⟩
  rw [show ((n : Int) + 1) = (n1 : Int) by omega]
  refine SatD.to ⟨DM.look [(2, .ptr 1003 0), (3, .ptr 1098 0), (5, .ptr 1255 0)], obs [(1003, .box [.v (ti 0), .nil0, .nil0]), (1098, .box (bcells x 1096)), (1096, mapOb (addAll [] (allN x n1))), (1255, .box [.v (ti n2), .nil0, .aref 1275 0]), (1275, .arr 0 3 1 (finRows x n2 n1))], 3000, 1000, []⟩ ?_ ?_
  · refine SatD.block ?_
    refine SatD.loop (fun y : Nat => ⟨DM.look [(2, .ptr 1003 0), (3, .ptr 1098 0), (4, .v (ti n)), (5, .ptr 1255 0), (28, .v (ti n1)), (29, .v (ti y))], obs [(1003, .box [.v (ti 0), .nil0, .nil0]), (1098, .box (bcells x 1096)), (1096, mapOb (addAll [] (allN x y))), (1255, .box [.v (ti n2), .nil0, .aref 1275 0]), (1275, .arr 0 3 1 (finRows x n2 y))], 3000, 1000, []⟩)
      (fun y => y ≤ n1) (fun y => n1 - y) 0 (Le.keep ?_ ?_ ?_ ?_) (by simp) (fun y hy => ?_)
    · simp
    · simp [bcells]
    · simp [bcells, mapOb, entries, allN, addAll, finRows_zero, corMap, corEs, isMap]
    · simp
    refine SatD.regSeq hΓ follows [2, 3, 4, 5, 28, 29, 30] ?_
    simp [d12r5]
    refine SatD.seq ?_
    refine SatD.cond rfl (fun hcc => ?_) (fun hcc => ?_)
    · simp at hcc
      refine SatD.skip ?_
      simp
      refine SatD.seq ?_
      refine SatD.block ?_
      refine SatD.regSeq hΓ follows [2, 3, 4, 5, 6, 28, 29] ?_
      simp [d12r6]
      refine SatD.regASeq hΓ follows (rs := d12r7S) (.inr ⟨_, rfl⟩) (by kernel_rfl) [2, 3, 4, 5, 6, 28, 29] ?_
      simp [d12r7S, k30_eq (x := x) (m := 1096) (al := addAll [] (allN x y))]
      refine ⟨⟨by omega, hx⟩, ?_⟩
      obtain ⟨al2, hal2⟩ : ∃ l, addAll (addAll [] (allN x y)) (fromL x y) = l := ⟨_, rfl⟩
      have hal2' : addAll [] (allN x (y + 1)) = al2 := by rw [allN_succ, addAll_append, hal2]
      rw [hal2, obs_setO]
      refine SatD.le (Le.keep (o := [(1003, .box [.v (ti 0), .nil0, .nil0]), (1098, .box (bcells x 1096)), (1096, mapOb al2), (1255, .box [.v (ti n2), .nil0, .aref 1275 0]), (1275, .arr 0 3 1 (finRows x n2 y))]) (l := [(2, .ptr 1003 0), (3, .ptr 1098 0), (4, .v (ti n)), (5, .ptr 1255 0), (6, .v (ti y)), (28, .v (ti n1)), (29, .v (ti y))]) (nxt' := 4000) ?_ ?_ ?_ ?_) ?_
      · simp
      · simp
      · simp [-corOb, corOb_box, corOb_arr, corOb_mapOb, bcells, corMap]
      · simp
      have hyn : y ≤ n := by omega
      have w4 : IntKind.i64.wrap (2 * (y : Int)) = ((2 * y : Nat) : Int) := by rw [wrap_id (by omega)]; omega
      obtain ⟨y2, hy2⟩ : ∃ y2, 2 * y = y2 := ⟨_, rfl⟩
      rw [hy2] at w4
      have hyl : y2 < n2 := by omega
      have hdc : delCost ((x.columns.take n).drop y) 0 = delC x y n := rfl
      have hra : DM.rowAt (finRows x n2 y) (y2 : Int) = [ti 1099511627776] := by
        have e : (2 * (y : Int)).toNat = y2 := by omega
        subst hy2
        simp [DM.rowAt, finRows, e, hyl]
      have hfr := finRows_set x (n := n2) (y := y) (by omega)
      rw [hy2, hn] at hfr
      have hd := hx.1
      refine SatD.regA hΓ follows (rs := d12r8R) (.inr ⟨_, rfl⟩) (by kernel_rfl) [2, 3, 4, 5, 28, 29] ?_
      simp [d12r8R, k31_read (x := x) (m := 1096), hn, w4, hd, hyn, finRows_len, hyl, hdc, hra, hfr]
      refine SatD.reg hΓ follows [2, 3, 4, 5, 28, 29] ?_
      simp [d12r9]
      rw [wrap_id (by omega)]
      refine ⟨y + 1, Le.keep ?_ ?_ ?_ ?_, by omega, by omega⟩
      · simp
      · simp
      · simp [-corOb, corOb_box, corOb_arr, corOb_mapOb, bcells, corMap, hal2']
      · simp
    · simp at hcc
      have : y = n1 := by omega
      subst this
      refine SatD.exit ⟨rfl, Le.keep ?_ ?_ ?_ ?_⟩
      · simp
      · simp
      · simp [-corOb, corOb_box, corOb_arr, corOb_mapOb, bcells, corMap]
      · simp
  · obtain ⟨al, hal⟩ : ∃ l, addAll [] (allN x n1) = l := ⟨_, rfl⟩
    obtain ⟨fr, hfr⟩ : ∃ l, finRows x n2 n1 = l := ⟨_, rfl⟩
    rw [hal, hfr]
    refine SatD.regSeq hΓ follows [2, 3, 5, 7] ?_
    simp [d12r10]
    refine SatD.seq ?_
    refine SatD.regSeq hΓ follows [2, 3, 5, 7, 52] ?_
    simp [d12r11, bcells, mapOb]
    refine SatD.le (Le.nilSlot (k := 7) 68 (sz := 3) (by omega) (by simp)) ?_
    rw [obs_setO]
    refine SatD.block ?_
    refine SatD.loop (fun sn : List Nat => ⟨DM.look [(2, .ptr 1003 0), (3, .ptr 1098 0), (5, .ptr 1255 0), (7, .aref 3166 0), (52, .iter 3136)], obs [(1003, .box [.v (ti 0), .nil0, .nil0]), (1098, .box (bcells x 1096)), (1096, mapOb al), (1255, .box [.v (ti n2), .nil0, .aref 1275 0]), (1275, .arr 0 3 1 fr), (3166, .arr 0 68 3 (sn.map fun i => keyRow (al.getD i default))), (3136, .iter 1096 al.length sn al.length)], 4000, 1000, []⟩)
      (fun sn => sn.Nodup ∧ ∀ i ∈ sn, i < al.length) (fun sn => al.length - sn.length) [] (Le.keep ?_ ?_ ?_ ?_) (by simp) (fun sn hs => ?_)
    · simp
    · simp
    · simp [-corOb, corOb_box, corOb_arr, corOb_mapOb, bcells, corMap]
      simp [corOb, mapOb, isMap]
      exact corEs_self fun e he => by obtain ⟨x, hx⟩ := arcs_entries al e he; rw [hx]; simp
    · simp [corIt, isIter]
    obtain ⟨hs1, hs2⟩ := hs
    refine SatD.seq ?_
    refine SatD.next (r := 3136) (m := 1096) (s := al.length) (l := al.length) (c := al.length) (sn := sn) (shs := keySh) (agg := true) (es := entries al) (by simp) (by simp) (by simp [mapOb]) (fun e he => ?_) (Nat.le_refl _) (fun hdone => ?_) (fun e he hne => ?_)
    · obtain ⟨i, hi, rfl⟩ := entries_mem he
      exact hi
    · simp
      have hp := seen_perm hs1 hs2 fun i hi => hdone _ (List.mem_of_getElem? (by rw [entries_get, List.getElem?_eq_getElem hi]; rfl : (entries al)[i]? = some (i, al[i].key, .v (.agg al[i].enc))))
      have hgood : ∀ r ∈ sn.map (fun i => keyRow (al.getD i default)), goodK r := by
        intro r hr
        obtain ⟨i, _, rfl⟩ := List.mem_map.1 hr
        exact ⟨_, _, _, rfl⟩
      have hlen : (sn.map (fun i => keyRow (al.getD i default))).length = al.length := by rw [hp.length_eq]; simp
      have hnd : (al.map keyRow).Nodup := by rw [← hal]; exact addAll_nodup _ (by simp)
      have hso : isort (ltF cmpKey) (sn.map (fun i => keyRow (al.getD i default))) = isort (ltF cmpKey) (al.map keyRow) := isort_perm hp (fun r hr => by
        obtain ⟨a, _, rfl⟩ := List.mem_map.1 hr
        exact ⟨_, _, _, rfl⟩) hnd
      have hala : arcsAll x = al := by unfold arcsAll; rw [hn, hn1, hal]
      rw [hala] at hb1 hb2
      rw [← hlen] at hb1 hb2
      obtain ⟨rows, hrows⟩ : ∃ r, sn.map (fun i => keyRow (al.getD i default)) = r := ⟨_, rfl⟩
      have hrows' : sn.map (fun i => keyRow (al[i]?.getD default)) = rows := hrows
      rw [hrows] at hb1 hb2 hgood hso hlen
      rw [hrows']
      refine SatD.seq ?_
      refine SatD.cond rfl (fun h => by cases h) (fun _ => ?_)
      refine SatD.exit ?_
      simp
      refine SatD.regASeq hΓ follows (rs := d12r14S) (.inr ⟨_, rfl⟩) (by kernel_rfl) [2, 3, 5, 7] ?_
      simp [d12r14S, k32, hso, hb1, hb2]
      refine ⟨hgood, ?_⟩
      obtain ⟨ks, hks⟩ : ∃ ks, isort (ltF cmpKey) (al.map keyRow) = ks := ⟨_, rfl⟩
      have hksl : ks.length = al.length := by rw [← hks, isort_length]; simp
      have hksm : ∀ r ∈ ks, ∃ a ∈ al, keyRow a = r := by
        intro r hr
        rw [← hks, mem_isort] at hr
        obtain ⟨a, ha, rfl⟩ := List.mem_map.1 hr
        exact ⟨a, ha, rfl⟩
      rw [hks, obs_setO]
      refine SatD.le (Le.keep (o := [(1003, .box [.v (ti 0), .nil0, .nil0]), (1098, .box (bcells x 1096)), (1096, mapOb al), (1255, .box [.v (ti n2), .nil0, .aref 1275 0]), (1275, .arr 0 3 1 fr), (3166, .arr 0 68 3 ks)]) (l := [(2, .ptr 1003 0), (3, .ptr 1098 0), (5, .ptr 1255 0), (7, .aref 3166 0)]) (nxt' := 4500) ?_ ?_ ?_ ?_) ?_
      · simp
      · simp
      · simp [bcells, corMap, isMap, corEs_entries, mapOb]
      · simp
      refine SatD.le (Le.nilCell 1255 1 42 (sz := 5) (cs := [.v (ti n2), .nil0, .aref 1275 0]) (by omega) (by simp) (by simp)) ?_
      rw [obs_setO, obs_setO]
      refine SatD.seq ?_
      refine SatD.regSeq hΓ follows [2, 3, 5, 63, 64, 65] ?_
      simp [d12r15, hksl]
      refine SatD.to ⟨DM.look [(2, .ptr 1003 0), (5, .ptr 1255 0)], obs [(1003, .box [.v (ti 0), .nil0, .nil0]), (1255, .box [.v (ti n2), .aref 4500 0, .aref 1275 0]), (1275, .arr 0 3 1 fr), (4500, .arr 0 42 5 (arcsT (sortArcs al)))], 6000, 1000, []⟩ ?_ ?_
      · refine SatD.block ?_
        refine SatD.loop (fun y : Nat => ⟨DM.look [(2, .ptr 1003 0), (3, .ptr 1098 0), (5, .ptr 1255 0), (63, .aref 3166 0), (64, .v (ti al.length)), (65, .v (ti y))], obs [(1003, .box [.v (ti 0), .nil0, .nil0]), (1098, .box (bcells x 1096)), (1096, mapOb al), (1255, .box [.v (ti n2), .aref 4500 0, .aref 1275 0]), (1275, .arr 0 3 1 fr), (3166, .arr 0 68 3 ks), (4500, .arr 0 42 5 (arcsT ((ks.take y).map (look3 al))))], 6000, 1000, []⟩)
          (fun y => y ≤ al.length) (fun y => al.length - y) 0 (Le.keep ?_ ?_ ?_ ?_) (by simp) (fun y hy => ?_)
        · simp
        · simp
        · simp [bcells, corMap, isMap, corEs_entries, mapOb, arcsT]
        · simp
        refine SatD.regSeq hΓ follows [2, 3, 5, 63, 64, 65, 66] ?_
        simp [d12r16]
        refine SatD.seq ?_
        refine SatD.cond rfl (fun hcc => ?_) (fun hcc => ?_)
        · simp at hcc
          refine SatD.skip ?_
          simp
          refine SatD.seq ?_
          refine SatD.block ?_
          obtain ⟨r, hr⟩ : ∃ r, ks[y]'(by omega) = r := ⟨_, rfl⟩
          obtain ⟨a, ha, hak⟩ := hksm r (by rw [← hr]; exact List.getElem_mem _)
          have hrow : DM.rowAt ks y = keyRow a := by rw [hak, ← hr]; simp [DM.rowAt, hksl, hcc]
          obtain ⟨l1, l2, i, l3⟩ := look3_mem ha
          have htake := rows_take (f := fun r => (look3 al r).enc) (by omega) hr
          obtain ⟨c, hc⟩ : ∃ c, look3 al (keyRow a) = c := ⟨_, rfl⟩
          rw [hc] at l3
          rw [← hak, hc] at htake
          have htake' : arcsT (List.take (y + 1) (List.map (look3 al) ks)) = arcsT (List.take y (List.map (look3 al) ks)) ++ [[ti c.f, ti c.t, ti c.term, ti c.cost, .sl (opsT c.ops)]] := by
            have := htake
            simp only [arcsT, List.map_take, List.map_map] at this ⊢
            exact this
          simp only [Arc.key, keyOf] at l3
          refine SatD.regSeq hΓ follows [2, 3, 5, 10, 63, 64, 65] ?_
          simp [d12r17, hrow, hksl, hcc, keyRow]
          refine SatD.reg hΓ follows [2, 3, 5, 63, 64, 65] ?_
          simp [d12r18, bcells, mapOb, l3, Arc.enc, roomOk, chunk]
          refine ⟨⟨by omega, by omega⟩, ?_⟩
          refine SatD.reg hΓ follows [2, 3, 5, 63, 64, 65] ?_
          simp [d12r19]
          rw [wrap_id (by omega)]
          refine ⟨y + 1, Le.keep ?_ ?_ ?_ ?_, by omega, by omega⟩
          · simp
          · simp
          · simp [corMap, isMap, corEs_entries, htake']
          · simp
        · simp at hcc
          have : y = al.length := by omega
          subst this
          refine SatD.exit ⟨rfl, Le.keep ?_ ?_ ?_ ?_⟩
          · simp
          · simp
          · simp [sortArcs, hks]
            rw [List.take_of_length_le (by simp; omega)]
          · simp
      · refine SatD.regSeq hΓ follows [2] ?_
        simp [d12r20]
        refine SatD.ret ?_
        have hfin : fr = intsT (finals x) := by rw [← hfr, ← hn1, ← hn2, ← hn]; exact finRows_all x
        simp [d12res, buildL, Lattice.enc, hala, hfin, hn]
        omega
    · obtain ⟨i, hi, rfl⟩ := entries_mem he
      have hfind := entries_find hi
      obtain ⟨a, ha⟩ : ∃ a, al.getD i default = a := ⟨_, rfl⟩
      rw [ha] at hfind
      simp only at hne
      simp
      refine SatD.seq ?_
      refine SatD.cond rfl (fun _ => ?_) (fun h => by cases h)
      refine SatD.skip ?_
      simp
      refine SatD.block ?_
      refine SatD.regSeq hΓ follows [2, 3, 5, 7, 8, 52] ?_
      simp [d12r12, mapOb, hfind, Arc.key, keyOf]
      refine SatD.reg hΓ follows [2, 3, 5, 7, 52] ?_
      simp [d12r13, roomOk, chunk]
      have hlen := nodup_len al.length (l := i :: sn) (by simp [hne, hs1]) (by simp; exact ⟨hi, hs2⟩)
      simp at hlen
      have hala : arcsAll x = al := by unfold arcsAll; rw [hn, hn1, hal]
      rw [hala] at hb2
      have ha' : al[i]?.getD default = a := ha
      refine ⟨⟨by omega, by omega⟩, sn ++ [i], Le.keep ?_ ?_ ?_ ?_, ⟨?_, ?_⟩, ?_⟩
      · simp
      · simp
      · simp [bcells, corMap, isMap, corEs_entries, ha', keyRow]
      · simp [corIt, isIter]
      · rw [List.nodup_append]
        exact ⟨hs1, by simp, by simp; intro q hq e; subst e; exact hne hq⟩
      · intro j hj
        rw [List.mem_append, List.mem_singleton] at hj
        rcases hj with h | h
        · exact hs2 j h
        · omega
      · simp; omega
end Go.Proofs
