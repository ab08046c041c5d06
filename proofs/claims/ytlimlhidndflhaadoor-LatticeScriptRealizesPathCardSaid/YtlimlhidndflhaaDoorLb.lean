/- Distance. Conditions: none. -/
import Derived.Test.YtlimlhidndflhaaDoorLa
import Derived.Test.YtlimlhidndflhaaDoorKa
namespace Go.Proofs
open Go.DM
set_option linter.unusedSimpArgs false
set_option linter.unusedVariables false

def relax (at' : List Int) (t : Int) (nx : List Int) (a : Arc) : List Int :=
  if a.term = t then nx.set a.t.toNat (min (nx.getD a.t.toNat default) (at'.getD a.f.toNat default + a.cost)) else nx
def nxN (arcs : List Arc) (S : Nat) (at' : List Int) (t : Int) (n : Nat) : List Int := (arcs.take n).foldl (relax at' t) (List.replicate S 1099511627776)
def at0 (S : Nat) : List Int := (List.replicate S 1099511627776).set 0 0
def atN (arcs : List Arc) (S : Nat) (y : List Int) (j : Nat) : List Int := (y.take j).foldl (fun a t => nxN arcs S a t arcs.length) (at0 S)
def bestN (at' fin : List Int) (n : Nat) : Int := (List.range n).foldl (fun b s => min b (at'.getD s default + fin.getD s default)) 1099511627776
def distL (l : Lattice) (y : List Int) : Int := bestN (atN l.arcs l.final.length y y.length) l.final l.final.length

def okA (S : Nat) (at' : List Int) : Prop := at'.length = S ∧ ∀ k, k < S → 0 ≤ at'.getD k default ∧ at'.getD k default ≤ 1099511627776
theorem okA_rep (S : Nat) : okA S (List.replicate S 1099511627776) := by
  refine ⟨by simp, fun k hk => ?_⟩
  simp [List.getD, hk]
theorem okA_set {S : Nat} {l : List Int} (h : okA S l) (i : Nat) {v : Int} (hv : 0 ≤ v ∧ v ≤ 1099511627776) : okA S (l.set i v) := by
  refine ⟨by simp [h.1], fun k hk => ?_⟩
  by_cases e : i = k
  · subst e; simp [List.getD, h.1, hk]; exact hv
  · simp only [List.getD, List.getElem?_set_ne e]; exact h.2 k hk
theorem okA_at0 (S : Nat) : okA S (at0 S) := okA_set (okA_rep S) 0 (by omega)
def arcIn (S : Nat) (a : Arc) : Prop := 0 ≤ a.f ∧ a.f < S ∧ 0 ≤ a.t ∧ a.t < S ∧ 0 ≤ a.cost ∧ a.cost < 1099511627776
theorem okA_relax {S : Nat} {at' nx : List Int} {t : Int} {a : Arc} (h1 : okA S at') (h2 : okA S nx) (ha : arcIn S a) : okA S (relax at' t nx a) := by
  unfold relax
  split
  · obtain ⟨a1, a2, a3, a4, a5, a6⟩ := ha
    have p1 := h1.2 a.f.toNat (by omega)
    have p2 := h2.2 a.t.toNat (by omega)
    exact okA_set h2 _ (by omega)
  · exact h2
theorem okA_nxN {S : Nat} {arcs : List Arc} {at' : List Int} {t : Int} (h1 : okA S at') (ha : ∀ a ∈ arcs, arcIn S a) (n : Nat) : okA S (nxN arcs S at' t n) := by
  unfold nxN
  have : ∀ (l : List Arc), (∀ a ∈ l, arcIn S a) → ∀ nx, okA S nx → okA S (l.foldl (relax at' t) nx) := by
    intro l
    induction l with
    | nil => intro _ nx h; exact h
    | cons a l ih => intro h nx hn; exact ih (fun b hb => h b (by simp [hb])) _ (okA_relax h1 hn (h a (by simp)))
  exact this _ (fun a h => ha a (List.mem_of_mem_take h)) _ (okA_rep S)
theorem okA_atN {S : Nat} {arcs : List Arc} {y : List Int} (ha : ∀ a ∈ arcs, arcIn S a) (j : Nat) : okA S (atN arcs S y j) := by
  unfold atN
  have : ∀ (l : List Int) a, okA S a → okA S (l.foldl (fun a t => nxN arcs S a t arcs.length) a) := by
    intro l
    induction l with
    | nil => intro a h; exact h
    | cons t l ih => intro a h; exact ih _ (okA_nxN h ha _)
  exact this _ _ (okA_at0 S)
theorem atN_succ {arcs : List Arc} {S : Nat} {y : List Int} {j : Nat} (h : j < y.length) : atN arcs S y (j + 1) = nxN arcs S (atN arcs S y j) (y.getD j default) arcs.length := by
  unfold atN
  rw [List.take_add_one, List.getElem?_eq_getElem h, List.foldl_append]
  simp [List.getD, h]
theorem nxN_succ {arcs : List Arc} {S : Nat} {at' : List Int} {t : Int} {n : Nat} (h : n < arcs.length) : nxN arcs S at' t (n + 1) = relax at' t (nxN arcs S at' t n) (arcs.getD n default) := by
  unfold nxN
  rw [List.take_add_one, List.getElem?_eq_getElem h, List.foldl_append]
  simp [List.getD, h]
theorem bestN_succ (at' fin : List Int) (n : Nat) : bestN at' fin (n + 1) = min (bestN at' fin n) (at'.getD n default + fin.getD n default) := by
  unfold bestN
  rw [List.range_succ, List.foldl_append]
  rfl
theorem valid_arcs {l : Lattice} {terms : Int} (h : validP l terms) : ∀ a ∈ l.arcs, arcIn l.final.length a := by
  intro a ha
  obtain ⟨i, hi, rfl⟩ := List.getElem_of_mem ha
  have h1 := (h.2.2 i hi).1
  have e : l.arcs.getD i default = l.arcs[i] := by simp [List.getD, hi]
  rw [e] at h1
  have h2 := h.1.2
  unfold arcOk at h1
  unfold arcIn
  omega
theorem set_ints (l : List Int) (i : Nat) (v : Int) : (intsT l).set i [ti v] = intsT (l.set i v) := by simp [intsT, List.map_set]

abbrev Γ29 : Env := envOf [(21, specF pre29 fn29 3 1)]
theorem ok29 : EnvOk Tryd.prog Γ29 := by
  refine EnvOk.consF EnvOk.nil ?_
  rintro ts ⟨v, n, rfl, h1, h2⟩
  have := t29 v n h1 h2
  simpa [fn29, intsT] using this

set_option maxHeartbeats 8000000 in
theorem t18 (l : Lattice) (y : List Int) (terms : Int) (hv : validP l terms) (h1 : l.final.length ≤ 1000000) (h2 : l.arcs.length ≤ 1000000000) (h3 : y.length ≤ 1000000000) : CallsOk Tryd.prog 16 [l.enc, .sl (intsT y)] (ti (distL l y)) := by
  have hΓ := ok29
  have harcs := valid_arcs hv
  have hS := hv.1
  have hf := hv.2.1
  unfold distL
  obtain ⟨s, arcs, fin⟩ := l
  simp only at h1 h2 harcs hS hf ⊢
  clear hv
  obtain ⟨S, hSl⟩ : ∃ S, fin.length = S := ⟨_, rfl⟩
  rw [hSl] at hS harcs h1 hf ⊢
  obtain ⟨hS1, rfl⟩ := hS
  have hS0 : 0 < S := by omega
  refine c18.ok (by simp) (initSt_sat ?_)
  simp [Lattice.enc]
  refine SatD.regSeq hΓ follows [1, 2] ?_
  simp [d18r0]
  refine SatD.le (Le.keep (o := []) (l := [(1, .v (.sl (intsT y))), (2, .v (.box [ti S, .sl (arcsT arcs), .sl (intsT fin)]))]) (nxt' := 1200) ?_ ?_ ?_ ?_) ?_
  · simp
  · simp
  · simp
  · simp
  refine SatD.regASeq hΓ follows (rs := d18r1S) (.inr ⟨_, rfl⟩) (by kernel_rfl) [1, 2, 5] ?_
  simp [d18r1S, pre29, fn29, chunk]
  refine ⟨⟨1099511627776, S, ⟨rfl, rfl⟩, by omega, by omega⟩, ?_⟩
  have hr0 : DM.rowAt (List.replicate S [T.int IntKind.i64 1099511627776]) 0 = [ti 1099511627776] := by simp [DM.rowAt, hS0]
  refine SatD.regSeq hΓ follows [1, 2, 5] ?_
  simp [d18r2, hr0]
  refine ⟨hS0, ?_⟩
  refine SatD.seq ?_
  refine SatD.regSeq hΓ follows [1, 2, 5, 20, 21, 22] ?_
  simp [d18r3]
  have e0 : (List.replicate S [ti 1099511627776]).set 0 [ti 0] = intsT (at0 S) := by simp [at0, intsT, List.map_set]
  rw [show (List.replicate S [T.int IntKind.i64 1099511627776]).set 0 [T.int IntKind.i64 0] = intsT (at0 S) from e0]
  obtain ⟨L, hL⟩ : ∃ L, y.length = L := ⟨_, rfl⟩
  rw [hL] at h3 ⊢
  refine SatD.to ⟨DM.look [(2, .v (.box [ti S, .sl (arcsT arcs), .sl (intsT fin)])), (5, .v (.sl (intsT (atN arcs S y L))))], obs [], 9000, 1000, []⟩ ?_ ?_
  · refine SatD.block ?_
    refine SatD.loop (fun j : Nat => ⟨DM.look [(1, .v (.sl (intsT y))), (2, .v (.box [ti S, .sl (arcsT arcs), .sl (intsT fin)])), (5, .v (.sl (intsT (atN arcs S y j)))), (20, .v (.sl (intsT y))), (21, .v (ti L)), (22, .v (ti j))], obs [], 2000, 1000, []⟩)
      (fun j => j ≤ L) (fun j => L - j) 0 (Le.keep (o := []) ?_ ?_ ?_ ?_) (by simp) (fun j hj => ?_)
    · simp
    · simp
    · simp
    · simp [atN]
    refine SatD.regSeq hΓ follows [1, 2, 5, 20, 21, 22, 23] ?_
    simp [d18r4]
    refine SatD.seq ?_
    refine SatD.cond rfl (fun hcc => ?_) (fun hcc => ?_)
    · simp at hcc
      refine SatD.skip ?_
      simp
      refine SatD.seq ?_
      have hjy : j < y.length := by omega
      have hr := rowAt_ints hjy
      have hsucc := atN_succ (arcs := arcs) (S := S) hjy
      obtain ⟨t, ht⟩ : ∃ p, y.getD j default = p := ⟨_, rfl⟩
      rw [ht] at hr hsucc
      have hat := okA_atN (y := y) harcs j
      obtain ⟨a, ha⟩ : ∃ a, atN arcs S y j = a := ⟨_, rfl⟩
      rw [ha] at hsucc hat ⊢
      refine SatD.block ?_
      refine SatD.regSeq hΓ follows [1, 2, 5, 7, 20, 21, 22] ?_
      simp [d18r5, hr, hcc, hL]
      refine SatD.regASeq hΓ follows (rs := d18r6S) (.inr ⟨_, rfl⟩) (by kernel_rfl) [1, 2, 5, 7, 8, 20, 21, 22] ?_
      simp [d18r6S, pre29, fn29, chunk]
      refine ⟨⟨1099511627776, S, ⟨rfl, rfl⟩, by omega, by omega⟩, ?_⟩
      refine SatD.seq ?_
      refine SatD.regSeq hΓ follows [1, 2, 5, 7, 8, 20, 21, 22, 31, 32, 33] ?_
      simp [d18r7]
      have e1 : List.replicate S [T.int IntKind.i64 1099511627776] = intsT (nxN arcs S a t 0) := by simp [nxN, intsT]
      rw [e1]
      obtain ⟨A, hA⟩ : ∃ A, arcs.length = A := ⟨_, rfl⟩
      rw [hA] at h2 hsucc ⊢
      refine SatD.block ?_
      refine SatD.loop (fun z : Nat => ⟨DM.look [(1, .v (.sl (intsT y))), (2, .v (.box [ti S, .sl (arcsT arcs), .sl (intsT fin)])), (5, .v (.sl (intsT a))), (7, .v (ti t)), (8, .aref 2192 0), (20, .v (.sl (intsT y))), (21, .v (ti L)), (22, .v (ti j)), (31, .v (.sl (arcsT arcs))), (32, .v (ti A)), (33, .v (ti z))], obs [(2192, .arr 0 3 1 (intsT (nxN arcs S a t z)))], 4000, 1000, []⟩)
        (fun z => z ≤ A) (fun z => A - z) 0 (Le.keep ?_ ?_ ?_ ?_) (by simp) (fun z hz => ?_)
      · simp
      · simp
      · simp
      · simp
      refine SatD.regSeq hΓ follows [1, 2, 5, 7, 8, 20, 21, 22, 31, 32, 33, 34] ?_
      simp [d18r8]
      refine SatD.seq ?_
      refine SatD.cond rfl (fun hcz => ?_) (fun hcz => ?_)
      · simp at hcz
        refine SatD.skip ?_
        simp
        refine SatD.seq ?_
        refine SatD.block ?_
        have hzA : z < arcs.length := by omega
        have hrz := rowAt_arcs hzA
        have hsz := nxN_succ (arcs := arcs) (S := S) (at' := a) (t := t) hzA
        have hnx := okA_nxN (t := t) hat harcs z
        obtain ⟨c, hc⟩ : ∃ c, arcs.getD z default = c := ⟨_, rfl⟩
        have hcin := harcs c (by rw [← hc]; simp [List.getD, hzA])
        rw [hc] at hrz hsz
        obtain ⟨nx, hnx'⟩ : ∃ nx, nxN arcs S a t z = nx := ⟨_, rfl⟩
        rw [hnx'] at hnx hsz ⊢
        obtain ⟨cf, ct, cx, cc, co⟩ := c
        obtain ⟨f1, f2, f3, f4, f5, f6⟩ := hcin
        simp only at f1 f2 f3 f4 f5 f6
        obtain ⟨f, rfl⟩ := Int.eq_ofNat_of_zero_le f1
        obtain ⟨g, rfl⟩ := Int.eq_ofNat_of_zero_le f3
        refine SatD.regSeq hΓ follows [1, 2, 5, 7, 8, 10, 20, 21, 22, 31, 32, 33] ?_
        simp [d18r9, hrz, hcz, hA, Arc.enc]
        refine SatD.le (Le.keep (o := [(2192, .arr 0 3 1 (intsT nx))]) (l := [(1, .v (.sl (intsT y))), (2, .v (.box [ti S, .sl (arcsT arcs), .sl (intsT fin)])), (5, .v (.sl (intsT a))), (7, .v (ti t)), (8, .aref 2192 0), (20, .v (.sl (intsT y))), (21, .v (ti L)), (22, .v (ti j)), (31, .v (.sl (arcsT arcs))), (32, .v (ti A)), (10, .v (.box [ti f, ti g, ti cx, ti cc, .sl (opsT co)])), (33, .v (ti z))]) (nxt' := 4500) ?_ ?_ ?_ ?_) ?_
        · simp
        · simp
        · simp
        · simp
        refine SatD.regSeq hΓ follows [1, 2, 5, 7, 8, 10, 20, 21, 22, 31, 32, 33, 40] ?_
        simp [d18r10]
        refine SatD.to ⟨DM.look [(1, .v (.sl (intsT y))), (2, .v (.box [ti S, .sl (arcsT arcs), .sl (intsT fin)])), (5, .v (.sl (intsT a))), (7, .v (ti t)), (8, .aref 2192 0), (20, .v (.sl (intsT y))), (21, .v (ti L)), (22, .v (ti j)), (31, .v (.sl (arcsT arcs))), (32, .v (ti A)), (33, .v (ti z))], obs [(2192, .arr 0 3 1 (intsT (relax a t nx ⟨f, g, cx, cc, co⟩)))], 5000, 1000, []⟩ ?_ ?_
        · refine SatD.cond rfl (fun h => ?_) (fun h => ?_)
          · simp at h
            subst h
            have hfS : f < a.length := by rw [hat.1]; omega
            have hgS : g < nx.length := by rw [hnx.1]; omega
            have r1 := rowAt_ints hfS
            have r2 := rowAt_ints hgS
            have b1 := hat.2 f (by omega)
            have b2 := hnx.2 g (by omega)
            obtain ⟨u, hu⟩ : ∃ u, a.getD f default = u := ⟨_, rfl⟩
            obtain ⟨w, hw⟩ : ∃ u, nx.getD g default = u := ⟨_, rfl⟩
            rw [hu] at r1 b1
            rw [hw] at r2 b2
            have w1 : IntKind.i64.wrap (u + cc) = u + cc := wrap_id (by omega)
            refine SatD.regA hΓ follows (rs := annot d18r11 []) (.inr ⟨_, rfl⟩) (by kernel_rfl) [1, 2, 5, 7, 8, 20, 21, 22, 31, 32, 33] ?_
            simp [annot, d18r11, r1, r2, hfS, hgS, w1]
            have rx : relax a cx nx ⟨f, g, cx, cc, co⟩ = nx.set g (min w (u + cc)) := by
              have hu' : a[f]?.getD 0 = u := hu
              have hw' : nx[g]?.getD 0 = w := hw
              simp [relax, hu', hw']
            rw [rx]
            refine Le.keep ?_ ?_ ?_ ?_
            · simp
            · simp
            · simp [← set_ints]
            · simp
          · simp at h
            have rx : relax a t nx ⟨f, g, cx, cc, co⟩ = nx := by simp [relax, h]
            rw [rx]
            refine SatD.skip ⟨rfl, Le.keep ?_ ?_ ?_ ?_⟩
            · simp
            · simp
            · simp
            · simp
        · refine SatD.reg hΓ follows [1, 2, 5, 7, 8, 20, 21, 22, 31, 32, 33] ?_
          simp [d18r12]
          rw [wrap_id (by omega)]
          refine ⟨z + 1, Le.keep ?_ ?_ ?_ ?_, by omega, by omega⟩
          · simp
          · simp
          · simp [hsz]
          · simp
      · simp at hcz
        have : z = A := by omega
        subst this
        refine SatD.exit ?_
        simp
        refine SatD.reg hΓ follows [1, 2, 5, 20, 21, 22] ?_
        simp [d18r13]
        refine SatD.reg hΓ follows [1, 2, 5, 20, 21, 22] ?_
        simp [d18r14]
        rw [wrap_id (by omega)]
        refine ⟨j + 1, Le.keep (o := []) ?_ ?_ ?_ ?_, by omega, by omega⟩
        · simp
        · simp
        · simp
        · simp [hsucc]
    · simp at hcc
      have : j = L := by omega
      subst this
      refine SatD.exit ⟨rfl, Le.keep (o := []) ?_ ?_ ?_ ?_⟩
      · simp
      · simp
      · simp
      · simp
  · have hat := okA_atN (y := y) harcs L
    obtain ⟨a, ha⟩ : ∃ a, atN arcs S y L = a := ⟨_, rfl⟩
    rw [ha] at hat ⊢
    refine SatD.regSeq hΓ follows [2, 5, 11] ?_
    simp [d18r15]
    refine SatD.seq ?_
    refine SatD.regSeq hΓ follows [2, 11, 62, 63, 64] ?_
    simp [d18r16, hat.1]
    refine SatD.block ?_
    refine SatD.loop (fun z : Nat => ⟨DM.look [(2, .v (.box [ti S, .sl (arcsT arcs), .sl (intsT fin)])), (11, .v (ti (bestN a fin z))), (62, .v (.sl (intsT a))), (63, .v (ti S)), (64, .v (ti z))], obs [], 10000, 1000, []⟩)
      (fun z => z ≤ S ∧ 0 ≤ bestN a fin z ∧ bestN a fin z ≤ 1099511627776) (fun z => S - z) 0 (Le.keep (o := []) ?_ ?_ ?_ ?_) (by simp [bestN]) (fun z hz => ?_)
    · simp
    · simp
    · simp
    · simp [bestN]
    obtain ⟨hz, hb1, hb2⟩ := hz
    refine SatD.regSeq hΓ follows [2, 11, 62, 63, 64, 65] ?_
    simp [d18r17]
    refine SatD.seq ?_
    refine SatD.cond rfl (fun hcz => ?_) (fun hcz => ?_)
    · simp at hcz
      refine SatD.skip ?_
      simp
      refine SatD.seq ?_
      refine SatD.block ?_
      have hza : z < a.length := by rw [hat.1]; exact hcz
      have hzf : z < fin.length := by rw [hSl]; exact hcz
      have r1 := rowAt_ints hza
      have r2 := rowAt_ints hzf
      have b1 := hat.2 z hcz
      have b2 := hf z hcz
      unfold finOk at b2
      have hsucc := bestN_succ a fin z
      obtain ⟨u, hu⟩ : ∃ u, a.getD z default = u := ⟨_, rfl⟩
      obtain ⟨w, hw⟩ : ∃ u, fin.getD z default = u := ⟨_, rfl⟩
      rw [hu] at r1 b1 hsucc
      rw [hw] at r2 b2 hsucc
      have w1 : IntKind.i64.wrap (u + w) = u + w := wrap_id (by omega)
      refine SatD.regSeq hΓ follows [2, 11, 12, 13, 62, 63, 64] ?_
      simp [d18r18, r1, hza]
      refine SatD.reg hΓ follows [2, 11, 62, 63, 64] ?_
      simp [d18r19, r2, hzf, w1]
      refine SatD.reg hΓ follows [2, 11, 62, 63, 64] ?_
      simp [d18r20]
      rw [wrap_id (by omega)]
      refine ⟨z + 1, Le.keep (o := []) ?_ ?_ ?_ ?_, ⟨by omega, by omega, by omega⟩, by omega⟩
      · simp
      · simp
      · simp
      · simp [hsucc]
    · simp at hcz
      have : z = S := by omega
      subst this
      refine SatD.exit ?_
      simp
      refine SatD.regSeq hΓ follows [4] ?_
      simp [d18r21]
      refine SatD.ret ?_
      simp [d18res]
end Go.Proofs
/- Distance, the specification. Conditions: none. -/
namespace Go.Proofs
open Go.DM
set_option linter.unusedSimpArgs false
set_option linter.unusedVariables false

def satA (a b : Int) : Int := if 1099511627776 ≤ a ∨ 1099511627776 ≤ b ∨ 1099511627776 ≤ a + b then 1099511627776 else a + b
theorem t36 (a b : Int) (ha : -1000000000000000000 ≤ a) (hb : -1000000000000000000 ≤ b) : CallsOk Tryd.prog 28 [ti a, ti b] (ti (satA a b)) := by
  have hΓ := okE
  refine c36.ok (by simp) (initSt_sat ?_)
  simp
  refine SatD.regSeq hΓ follows [0, 1] ?_
  simp [d36r0]
  refine SatD.seq ?_
  refine SatD.regToS hΓ follows [(0, .v (ti a)), (1, .v (ti b)), (16, .v (.bool (decide (1099511627776 ≤ a ∨ 1099511627776 ≤ b ∨ 1099511627776 ≤ a + b))))] ?_ ?_
  · by_cases q1 : 1099511627776 ≤ a
    · simp [d36r1, q1]
    · by_cases q2 : 1099511627776 ≤ b
      · simp [d36r1, q1, q2]
      · have w : IntKind.i64.wrap (a + b) = a + b := wrap_id (by omega)
        by_cases q3 : 1099511627776 ≤ a + b
        · simp [d36r1, q1, q2, w, q3]
        · simp [d36r1, q1, q2, w, q3]
  refine SatD.cond rfl (fun h => ?_) (fun h => ?_)
  · simp only [decide_eq_true_eq] at h
    refine SatD.regSeq hΓ follows [4] ?_
    simp [d36r2]
    refine SatD.ret ?_
    simp [d36res, satA, h]
  · simp only [decide_eq_false_iff_not] at h
    refine SatD.skip ?_
    simp
    refine SatD.regSeq hΓ follows [4] ?_
    simp [d36r3]
    refine SatD.ret ?_
    rw [wrap_id (by omega)]
    simp only [satA, h, if_false]
    simp [d36res]
abbrev spec36 : DM.Spec := specP (fun ts => ∃ a b : Int, ts = [ti a, ti b] ∧ -1000000000000000000 ≤ a ∧ -1000000000000000000 ≤ b) (fun | [.int _ a, .int _ b] => ti (satA a b) | _ => .bool false) true
theorem ok36 : EnvOk Tryd.prog (envOf [(28, spec36)]) := by
  refine EnvOk.cons EnvOk.nil ?_
  rintro ts ⟨a, b, rfl, h1, h2⟩
  exact ⟨t36 a b h1 h2, fun _ => rfl⟩

def fill (S lo k : Nat) : List Int := (List.range S).map fun i => if lo ≤ i ∧ i < k then 1099511627776 else 0
end Go.Proofs
