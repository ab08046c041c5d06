/- A walk through a lattice by turns. Conditions: none. -/
import Derived.Test.YtlimlhidndflhaaDoorDa
namespace Go.Proofs
open Go.DM
set_option linter.unusedSimpArgs false
set_option linter.unusedVariables false

def u8T (l : List Int) : List (List T) := l.map fun t => [.int .u8 t]
@[simp] theorem u8T_len (l : List Int) : (u8T l).length = l.length := by simp [u8T]
theorem rowAt_u8 {l : List Int} {y : Nat} (h : y < l.length) : DM.rowAt (u8T l) y = [.int .u8 (l.getD y default)] := by simp [DM.rowAt, u8T, h]
/-- The arcs among the first n that leave a state. -/
def outs (arcs : List Arc) (s : Int) (n : Nat) : List Int := ((List.range n).filter fun k => decide ((arcs.getD k default).f = s)).map fun (k : Nat) => (k : Int)
theorem outs_succ (arcs : List Arc) (s : Int) (n : Nat) : outs arcs s (n + 1) = outs arcs s n ++ (if (arcs.getD n default).f = s then [(n : Int)] else []) := by
  unfold outs
  rw [List.range_succ, List.filter_append, List.map_append]
  congr 1
  by_cases h : (arcs.getD n default).f = s
  · have h' : (arcs[n]?.getD default).f = s := h
    simp [List.filter_cons, h']
  · have h' : ¬ (arcs[n]?.getD default).f = s := h
    simp [List.filter_cons, h']
theorem outs_zero (arcs : List Arc) (s : Int) : outs arcs s 0 = [] := rfl
theorem outs_len (arcs : List Arc) (s : Int) (n : Nat) : (outs arcs s n).length ≤ n := by
  unfold outs
  rw [List.length_map]
  exact Nat.le_trans (List.length_filter_le _ _) (by simp)
theorem outs_mem {arcs : List Arc} {s : Int} {n : Nat} {v : Int} (h : v ∈ outs arcs s n) : ∃ k : Nat, v = k ∧ k < n ∧ (arcs.getD k default).f = s := by
  simp only [outs, List.mem_map, List.mem_filter, List.mem_range, decide_eq_true_eq] at h
  obtain ⟨k, ⟨h1, h2⟩, rfl⟩ := h
  exact ⟨k, rfl, h1, h2⟩
def pick1 (arcs : List Arc) (s t : Int) : Int := (outs arcs s arcs.length).getD (t.toNat % (outs arcs s arcs.length).length) default
def walkS (arcs : List Arc) : List Int → Int → List Int
  | [], _ => []
  | t :: ts, s => if (outs arcs s arcs.length).length = 0 then [] else pick1 arcs s t :: walkS arcs ts (arcs.getD (pick1 arcs s t).toNat default).t
theorem walkS_len (arcs : List Arc) : ∀ (ts : List Int) (s : Int), (walkS arcs ts s).length ≤ ts.length
  | [], s => by simp [walkS]
  | t :: ts, s => by
    unfold walkS
    split
    · simp
    · simpa using walkS_len arcs ts _
theorem pick1_mem {arcs : List Arc} {s t : Int} (h : (outs arcs s arcs.length).length ≠ 0) : pick1 arcs s t ∈ outs arcs s arcs.length := by
  have hl : t.toNat % (outs arcs s arcs.length).length < (outs arcs s arcs.length).length := Nat.mod_lt _ (by omega)
  unfold pick1
  rw [List.getD, List.getElem?_eq_getElem hl]
  exact List.getElem_mem hl
structure WK where
  i : Nat
  p : List Int
  s : Int
set_option maxRecDepth 20000 in
set_option maxHeartbeats 8000000 in
theorem t909 (l : Lattice) (ts : List Int) (h1 : l.arcs.length ≤ 1000000000) (h2 : ts.length ≤ 1000000) (h3 : ∀ t ∈ ts, 0 ≤ t ∧ t ≤ 255) : CallsOk Tryd.prog 9 [l.enc, .sl (u8T ts)] (.sl (intsT (walkS l.arcs ts 0))) := by
  have hΓ := okE
  refine c909.ok (by simp) (initSt_sat ?_)
  simp [Lattice.enc]
  refine SatD.regSeq hΓ follows [1, 2] ?_
  simp [d909r0]
  refine SatD.le (Le.keep (o := []) (l := [(1, .v (.sl (u8T ts))), (2, .v (.box [ti l.states, .sl (arcsT l.arcs), .sl (intsT l.final)]))]) (nxt' := 1200) ?_ ?_ ?_ ?_) ?_
  · simp
  · simp
  · simp
  · simp
  refine SatD.regSeq hΓ follows [1, 2, 5] ?_
  simp [d909r1]
  refine SatD.le (Le.keep (o := []) (l := [(1, .v (.sl (u8T ts))), (2, .v (.box [ti l.states, .sl (arcsT l.arcs), .sl (intsT l.final)])), (5, .nil0)]) (nxt' := 2000) ?_ ?_ ?_ ?_) ?_
  · simp
  · simp
  · simp
  · simp
  refine SatD.le (Le.nilSlot (k := 5) 3 (sz := 1) (by omega) (by simp)) ?_
  rw [obs_setO]
  refine SatD.regSeq hΓ follows [1, 2, 5, 6] ?_
  simp [d909r2]
  refine SatD.seq ?_
  refine SatD.regSeq hΓ follows [1, 2, 5, 6, 7] ?_
  simp [d909r3]
  refine SatD.block ?_
  refine SatD.loop (fun q : WK => ⟨DM.look [(1, .v (.sl (u8T ts))), (2, .v (.box [ti l.states, .sl (arcsT l.arcs), .sl (intsT l.final)])), (5, .aref 2000 0), (6, .v (ti q.s)), (7, .v (ti q.i))], obs [(2000, .arr 0 3 1 (intsT (q.p)))], 3000, 1000, []⟩)
    (fun q => q.i ≤ ts.length ∧ q.p.length = q.i ∧ q.p ++ walkS l.arcs (ts.drop q.i) q.s = walkS l.arcs ts 0) (fun q => ts.length - q.i) ⟨0, [], 0⟩ (Le.keep ?_ ?_ ?_ ?_) (by simp) (fun q hq => ?_)
  · simp
  · simp
  · simp [intsT]
  · simp
  obtain ⟨hq1, hq2, hq3⟩ := hq
  obtain ⟨i, p, s⟩ := q
  simp only at hq1 hq2 hq3
  refine SatD.seq ?_
  refine SatD.regSeq hΓ follows [1, 2, 5, 6, 7, 14] ?_
  simp [d909r4]
  refine SatD.cond rfl (fun hcc => ?_) (fun hcc => ?_)
  · simp only [decide_eq_true_eq] at hcc
    have hil : i < ts.length := by simpa using hcc
    refine SatD.skip ?_
    simp
    refine SatD.seq ?_
    refine SatD.block ?_
    refine SatD.regSeq hΓ follows [1, 2, 5, 6, 7, 8] ?_
    simp [d909r5]
    refine SatD.le (Le.keep (o := [(2000, .arr 0 3 1 (intsT (p)))]) (l := [(1, .v (.sl (u8T ts))), (2, .v (.box [ti l.states, .sl (arcsT l.arcs), .sl (intsT l.final)])), (5, .aref 2000 0), (6, .v (ti s)), (7, .v (ti i)), (8, .nil0)]) (nxt' := 4000) ?_ ?_ ?_ ?_) ?_
    · simp
    · simp
    · simp
    · simp
    refine SatD.le (Le.nilSlot (k := 8) 3 (sz := 1) (by omega) (by simp)) ?_
    rw [obs_setO]
    refine SatD.seq ?_
    refine SatD.regSeq hΓ follows [1, 2, 5, 6, 7, 8, 9] ?_
    simp [d909r6]
    refine SatD.block ?_
    refine SatD.loop (fun j : Nat => ⟨DM.look [(1, .v (.sl (u8T ts))), (2, .v (.box [ti l.states, .sl (arcsT l.arcs), .sl (intsT l.final)])), (5, .aref 2000 0), (6, .v (ti s)), (7, .v (ti i)), (8, .aref 4000 0), (9, .v (ti j))], obs [(2000, .arr 0 3 1 (intsT (p))), (4000, .arr 0 3 1 (intsT (outs l.arcs s j)))], 5000, 1000, []⟩)
      (fun j => j ≤ l.arcs.length) (fun j => l.arcs.length - j) 0 (Le.keep ?_ ?_ ?_ ?_) (by simp) (fun j hj => ?_)
    · simp
    · simp
    · simp [outs_zero, intsT]
    · simp
    refine SatD.seq ?_
    refine SatD.regSeq hΓ follows [1, 2, 5, 6, 7, 8, 9, 21] ?_
    simp [d909r7]
    refine SatD.cond rfl (fun hc2 => ?_) (fun hc2 => ?_)
    · have hjl : j < l.arcs.length := by simpa using hc2
      refine SatD.skip ?_
      simp
      refine SatD.seq ?_
      refine SatD.block ?_
      have ra := rowAt_arcs hjl
      obtain ⟨a, ha⟩ : ∃ a, l.arcs.getD j default = a := ⟨_, rfl⟩
      rw [ha] at ra
      have hos := outs_succ l.arcs s j
      rw [ha] at hos
      have hol := outs_len l.arcs s j
      obtain ⟨af, at', ax, ac, ao⟩ := a
      simp only at hos
      refine SatD.regToS hΓ follows [(1, .v (.sl (u8T ts))), (2, .v (.box [ti l.states, .sl (arcsT l.arcs), .sl (intsT l.final)])), (5, .aref 2000 0), (6, .v (ti s)), (7, .v (ti i)), (8, .aref 4000 0), (9, .v (ti j)), (31, .v (.bool (decide (af = s))))] ?_ ?_
      · simp [d909r8, hjl, ra, Arc.enc]
      refine SatD.to ⟨DM.look [(1, .v (.sl (u8T ts))), (2, .v (.box [ti l.states, .sl (arcsT l.arcs), .sl (intsT l.final)])), (5, .aref 2000 0), (6, .v (ti s)), (7, .v (ti i)), (8, .aref 4000 0), (9, .v (ti j))], obs [(2000, .arr 0 3 1 (intsT (p))), (4000, .arr 0 3 1 (intsT (outs l.arcs s (j + 1))))], 6000, 1000, []⟩ ?_ ?_
      · refine SatD.cond rfl (fun h5 => ?_) (fun h5 => ?_)
        · have h5 : af = s := by simpa using h5
          rw [if_pos h5] at hos
          refine SatD.reg hΓ follows [1, 2, 5, 6, 7, 8, 9] ?_
          simp [d909r9, roomOk, chunk]
          refine ⟨⟨by omega, by omega⟩, ?_⟩
          exact Le.keep (by simp) (by simp) (by simp [hos, intsT]) (by simp)
        · have h5 : ¬ af = s := by simpa using h5
          rw [if_neg h5, List.append_nil] at hos
          refine SatD.skip ?_
          simp
          exact Le.keep (by simp) (by simp) (by simp [hos, intsT]) (by simp)
      refine SatD.reg hΓ follows [1, 2, 5, 6, 7, 8, 9] ?_
      simp [d909r10]
      rw [wrap_id (by omega)]
      refine ⟨j + 1, Le.keep ?_ ?_ ?_ ?_, by omega, by omega⟩
      · simp
      · simp
      · simp
      · simp
    · have hjl : j = l.arcs.length := by simp at hc2; omega
      subst hjl
      refine SatD.exit ?_
      simp
      refine SatD.seq ?_
      obtain ⟨O, hO⟩ : ∃ O, outs l.arcs s l.arcs.length = O := ⟨_, rfl⟩
      rw [hO]
      obtain ⟨t, ht⟩ : ∃ t, ts.getD i default = t := ⟨_, rfl⟩
      have htm : t ∈ ts := by rw [← ht, List.getD, List.getElem?_eq_getElem hil]; exact List.getElem_mem hil
      have htb := h3 t htm
      have hdr : ts.drop i = t :: ts.drop (i + 1) := by rw [List.drop_eq_getElem_cons hil, ← ht]; simp [List.getD, hil]
      rw [hdr] at hq3
      refine SatD.regToS hΓ follows [(1, .v (.sl (u8T ts))), (2, .v (.box [ti l.states, .sl (arcsT l.arcs), .sl (intsT l.final)])), (5, .aref 2000 0), (7, .v (ti i)), (8, .aref 4000 0), (38, .v (.bool (decide (O.length = 0))))] ?_ ?_
      · by_cases h6 : O = []
        · simp [d909r11, h6]
        · simp [d909r11, h6]
      refine SatD.cond rfl (fun h6 => ?_) (fun h6 => ?_)
      · have h6 : O.length = 0 := by simpa using h6
        simp only [walkS, hO, if_pos h6, List.append_nil] at hq3
        refine SatD.regSeq hΓ follows [4] ?_
        simp [d909r12]
        refine SatD.ret ?_
        simp [d909res, hq3]
      · have h6 : O.length ≠ 0 := by simpa using h6
        have hpm := pick1_mem (arcs := l.arcs) (s := s) (t := t) (by rw [hO]; exact h6)
        obtain ⟨k, hk1, hk2, hk3⟩ := outs_mem hpm
        simp only [walkS, hO, if_neg h6] at hq3
        have hpk : pick1 l.arcs s t = O.getD (t.toNat % O.length) default := by unfold pick1; rw [hO]
        rw [hk1] at hpk hq3
        obtain ⟨n, rfl⟩ := Int.eq_ofNat_of_zero_le htb.1
        simp only [Int.toNat_natCast] at hpk
        have hml : n % O.length < O.length := Nat.mod_lt _ (by omega)
        have hpos : 0 < O.length := by omega
        refine SatD.skip ?_
        simp
        have ru := rowAt_u8 hil
        rw [ht] at ru
        have ro := rowAt_ints hml
        rw [← hpk] at ro
        have e0 : (n : Int).tmod (O.length : Int) = ((n % O.length : Nat) : Int) := (Int.ofNat_tmod n O.length).symm
        obtain ⟨m, hm⟩ : ∃ m, n % O.length = m := ⟨_, rfl⟩
        rw [hm] at e0 ro hml
        have w1 : IntKind.i64.wrap (n : Int) = n := wrap_id (by omega)
        have w2 : IntKind.i64.wrap (m : Int) = m := by
          rw [wrap_id]
          have hOl := outs_len l.arcs s l.arcs.length
          rw [hO] at hOl
          omega
        refine SatD.regSeq hΓ follows [1, 2, 5, 7, 10] ?_
        simp [d909r13, hil, ru, w1, w2, h6, e0, ro, hml]
        have ra := rowAt_arcs hk2
        obtain ⟨a, ha⟩ : ∃ a, l.arcs.getD k default = a := ⟨_, rfl⟩
        rw [ha] at ra
        simp only [Int.toNat_natCast, ha] at hq3
        have hnx : (p ++ [(k : Int)]) ++ walkS l.arcs (ts.drop (i + 1)) a.t = walkS l.arcs ts 0 := by rw [List.append_assoc]; exact hq3
        refine SatD.regSeq hΓ follows [1, 2, 5, 7, 10] ?_
        simp [d909r14, roomOk, chunk]
        refine ⟨⟨by omega, by omega⟩, ?_⟩
        refine SatD.reg hΓ follows [1, 2, 5, 6, 7] ?_
        simp [d909r15, ra, hk2, Arc.enc]
        have w3 : IntKind.i64.wrap ((i : Int) + 1) = ((i + 1 : Nat) : Int) := by rw [wrap_id (by omega)]; omega
        refine SatD.reg hΓ follows [1, 2, 5, 6, 7] ?_
        simp [d909r16, w3]
        refine ⟨⟨i + 1, p ++ [(k : Int)], a.t⟩, Le.keep ?_ ?_ ?_ ?_, ⟨by simp only; omega, by simp; omega, hnx⟩, by simp only; omega⟩
        · simp
        · simp
        · simp [intsT]
        · simp
  · simp only [decide_eq_false_iff_not] at hcc
    have hil : i = ts.length := by simp at hcc; omega
    have hnil : ts.drop i = [] := List.drop_eq_nil_of_le (by omega)
    rw [hnil] at hq3
    simp only [walkS, List.append_nil] at hq3
    refine SatD.exit ?_
    simp
    refine SatD.regSeq hΓ follows [4] ?_
    simp [d909r17]
    refine SatD.ret ?_
    simp [d909res, hq3]
end Go.Proofs
/- The script of a path, run: plain laws. Conditions: none. -/
namespace Go.Proofs
open Go.DM
set_option linter.unusedSimpArgs false
set_option linter.unusedVariables false

/-- An arc of the lattice, with its operations. -/
inductive ArcOps (x : Input) (a : Arc) : Prop
  | read (i m t : Nat) : i ≤ m → m < x.columns.length → 0 ≤ readAt x m t → a.f = 2 * i → a.t = 2 * m + 2 → a.term = t → t < x.insert.length → delC x i m < INF → a.cost = delC x i m + readAt x m t → a.ops = dels (m - i) ++ [(1, (t : Int))] → ArcOps x a
  | ins (i m t : Nat) : i ≤ m → m ≤ x.columns.length → a.f = 2 * i → a.t = 2 * m → a.term = t → t < x.insert.length → delC x i m < INF → a.cost = delC x i m + insAt x t → a.ops = dels (m - i) ++ [(3, (t : Int))] → ArcOps x a
  | sw1 (i m : Nat) : i ≤ m → swapOk x m = true → a.f = 2 * i → a.t = 2 * m + 1 → a.term = (x.columns.getD (m + 1) default).kind → delC x i m < INF → a.cost = delC x i m + x.swap → a.ops = dels (m - i) ++ [(4, 0)] → ArcOps x a
  | sw2 (i : Nat) : swapOk x i = true → a.f = 2 * i + 1 → a.t = 2 * i + 4 → a.term = (x.columns.getD i default).kind → a.cost = 0 → a.ops = [] → ArcOps x a
theorem arc_ops {x : Input} (hd : delOk x.columns) (hx : nnI x) {a : Arc} (ha : a ∈ refArcs x) : ArcOps x a := by
  obtain ⟨hm, hcost⟩ := refArcs_mem ha
  rcases hm with hm | hm
  · obtain ⟨i, _, hi, hm⟩ := mem_ft hm
    unfold rI at hm
    rw [List.mem_append] at hm
    rcases hm with hm | hm
    · obtain ⟨m, him, hmn, hm⟩ := mem_ft hm
      unfold rM at hm
      rw [List.mem_append] at hm
      rcases hm with hm | hm
      · obtain ⟨t, _, ht, hm⟩ := mem_ft hm
        unfold rA at hm
        split at hm
        · rename_i hr
          simp only [List.mem_singleton] at hm
          subst hm
          have := satA_lt (delC_bound hd i m).1 hr.2 hcost
          exact .read i m t him hr.1 hr.2 rfl rfl rfl ht this.2 this.1 rfl
        · simp at hm
      · unfold rS at hm
        split at hm
        · rename_i hr
          simp only [List.mem_singleton] at hm
          subst hm
          have := satA_lt (delC_bound hd i m).1 hx.swap hcost
          exact .sw1 i m him hr rfl rfl rfl this.2 this.1 rfl
        · simp at hm
    · obtain ⟨hr, rfl⟩ := mem_rT hm
      exact .sw2 i hr rfl rfl rfl rfl rfl
  · obtain ⟨i, _, hi, hm⟩ := mem_ft hm
    unfold iI at hm
    obtain ⟨m, him, hmn, hm⟩ := mem_ft hm
    unfold iM at hm
    obtain ⟨t, _, ht, hm⟩ := mem_ft hm
    simp only [iT, List.mem_singleton] at hm
    subst hm
    have := satA_lt (delC_bound hd i m).1 (hx.ins t) hcost
    exact .ins i m t him (by omega) rfl rfl rfl ht this.2 this.1 rfl

/-- Bounds of an input. -/
structure bnd (x : Input) : Prop where
  n : x.columns.length ≤ 1000
  d : delOk x.columns
  nn : nnI x
  rd : ∀ m t : Nat, m < x.columns.length → t < x.insert.length → t < (x.columns.getD m default).read.length ∧ readAt x m t ≤ INF
  ins : ∀ t : Nat, t < x.insert.length → insAt x t ≤ INF
  sw : x.swap ≤ INF
/-- So far each operation was possible. -/
structure runG (x : Input) (l : List (Int × Int)) : Prop where
  st : ∀ j, j ≤ l.length → esOk x (runE x (l.take j))
  kind : ∀ o ∈ l, 1 ≤ o.1 ∧ o.1 ≤ 4 ∧ 0 ≤ o.2
  can : ∀ j, j < l.length → canE x (runE x (l.take j)) (l.getD j default).1.toNat (l.getD j default).2.toNat
theorem runE_snoc (x : Input) (l : List (Int × Int)) (o : Int × Int) : runE x (l ++ [o]) = stE x (runE x l) o := by simp [runE]
theorem runG.snoc {x : Input} {l : List (Int × Int)} (h : runG x l) {o : Int × Int} (hk : 1 ≤ o.1 ∧ o.1 ≤ 4 ∧ 0 ≤ o.2) (hc : canE x (runE x l) o.1.toNat o.2.toNat) (he : esOk x (stE x (runE x l) o)) : runG x (l ++ [o]) := by
  refine ⟨fun j hj => ?_, fun p hp => ?_, fun j hj => ?_⟩
  · simp only [List.length_append, List.length_singleton] at hj
    by_cases e : j ≤ l.length
    · rw [List.take_append_of_le_length e]; exact h.st j e
    · have : j = (l ++ [o]).length := by simp; omega
      rw [this, List.take_length, runE_snoc]
      exact he
  · rcases List.mem_append.1 hp with hp | hp
    · exact h.kind p hp
    · simp only [List.mem_singleton] at hp; subst hp; exact hk
  · simp only [List.length_append, List.length_singleton] at hj
    by_cases e : j < l.length
    · rw [List.take_append_of_le_length (by omega)]
      have : (l ++ [o]).getD j default = l.getD j default := by simp [List.getD, List.getElem?_append_left e]
      rw [this]
      exact h.can j e
    · have : j = l.length := by omega
      subst this
      have e2 : (l ++ [o]).getD l.length default = o := by simp [List.getD]
      rw [e2, List.take_append_of_le_length (Nat.le_refl _), List.take_length]
      exact hc
theorem satA_min {a b : Int} (ha : a ≤ INF) (ha0 : 0 ≤ a) (hb0 : 0 ≤ b) : satA a b = min (a + b) INF := by
  simp only [INF] at *
  unfold satA
  split <;> omega
/-- Deleting d tokens. -/
theorem runG.dels {x : Input} (hb : bnd x) {l : List (Int × Int)} {i : Nat} {y : List Int} {c : Int} (h : runG x l) (hr : runE x l = ⟨i, y, c⟩) (hc0 : 0 ≤ c) (hc1 : c ≤ INF) (hy : y.length ≤ 999990) : ∀ d : Nat, i + d ≤ x.columns.length → delC x i (i + d) < INF →
    runG x (l ++ dels d) ∧ runE x (l ++ dels d) = ⟨i + d, y, min (c + delC x i (i + d)) INF⟩
  | 0, _, _ => by
    have e : delC x i (i + 0) = 0 := delC_self x i
    rw [e]
    have : min (c + 0) INF = c := by omega
    rw [this]
    simpa [Go.Proofs.dels] using ⟨h, hr⟩
  | d + 1, hd, hlt => by
    have hstep := delC_step x (i := i) (m := i + d) (by omega) (by omega)
    rw [show i + (d + 1) = i + d + 1 by omega] at hlt ⊢
    have hnn := hb.nn.del (i + d)
    have h0 := (delC_bound hb.d i (i + d)).1
    have hlt2 : delC x i (i + d) < INF := by
      rw [hstep] at hlt
      simp only [INF] at *
      omega
    have hlt3 : delC x i (i + d) + delAt x (i + d) < INF := by
      rw [hstep] at hlt
      simp only [INF] at *
      omega
    obtain ⟨g1, g2⟩ := runG.dels hb h hr hc0 hc1 hy d (by omega) hlt2
    have hn := hb.n
    have hs : stE x (runE x (l ++ Go.Proofs.dels d)) (2, 0) = ⟨i + d + 1, y, min (c + delC x i (i + d + 1)) INF⟩ := by
      rw [g2]
      show (⟨i + d + 1, y, min (min (c + delC x i (i + d)) INF + delAt x (i + d)) INF⟩ : ES) = _
      congr 1
      rw [hstep]
      simp only [INF] at *
      omega
    have e : l ++ Go.Proofs.dels (d + 1) = (l ++ Go.Proofs.dels d) ++ [(2, 0)] := by
      rw [List.append_assoc]
      congr 1
      simp [Go.Proofs.dels, List.replicate_succ']
    rw [e]
    refine ⟨g1.snoc ⟨by decide, by decide, by decide⟩ ?_ ?_, by rw [runE_snoc, hs]⟩
    · rw [g2]
      exact ⟨by simp only; omega, rfl, hnn, by simp only [INF] at *; omega⟩
    · rw [hs]
      exact ⟨by simp only; omega, hy, by simp only [INF] at *; omega, by simp only [INF] at *; omega, by omega⟩
/-- What is known of a path's beginning. -/
def pInv (x : Input) (y : List Int) (s : Int) (ops : List (Int × Int)) (c : Int) : Prop :=
  runG x ops ∧ 0 ≤ c ∧ c ≤ INF ∧ ((∃ i : Nat, s = 2 * i ∧ i ≤ x.columns.length ∧ runE x ops = ⟨i, y, c⟩) ∨ ∃ i : Nat, s = 2 * i + 1 ∧ swapOk x i = true ∧ runE x ops = ⟨i + 2, y ++ [(x.columns.getD i default).kind], c⟩)
theorem pInv.step {x : Input} (hb : bnd x) {y : List Int} {s c : Int} {ops : List (Int × Int)} (h : pInv x y s ops c) (hy : y.length ≤ 1000) {a : Arc} (ha : ArcOps x a) (hf : a.f = s) : pInv x (y ++ [a.term]) a.t (ops ++ a.ops) (satA c a.cost) := by
  obtain ⟨hg, hc0, hc1, hst⟩ := h
  have hn := hb.n
  cases ha with
  | read i m t him hm hr h1 h2 h3 ht hlt h4 h5 =>
    obtain ⟨i', e1, e2, e3⟩ := hst.resolve_right (by rintro ⟨i', e1, _⟩; omega)
    have : i' = i := by omega
    subst this
    obtain ⟨d, rfl⟩ : ∃ d, m = i' + d := ⟨m - i', by omega⟩
    obtain ⟨g1, g2⟩ := runG.dels hb hg e3 hc0 hc1 (by omega) d (by omega) hlt
    have h0 := (delC_bound hb.d i' (i' + d)).1
    have hrd := hb.rd (i' + d) t hm ht
    rw [h5, h3, show i' + d - i' = d by omega, ← List.append_assoc, h4, satA_min hc1 hc0 (by omega)]
    have hs : stE x (runE x (ops ++ Go.Proofs.dels d)) (1, (t : Int)) = ⟨i' + d + 1, y ++ [(t : Int)], min (c + (delC x i' (i' + d) + readAt x (i' + d) t)) INF⟩ := by
      rw [g2]
      show (⟨i' + d + 1, y ++ [(t : Int)], min (min (c + delC x i' (i' + d)) INF + readAt x (i' + d) t) INF⟩ : ES) = _
      congr 1
      simp only [INF] at *
      omega
    refine ⟨g1.snoc ⟨by simp, by simp, by simp⟩ ?_ ?_, by simp only [INF] at *; omega, by simp only [INF] at *; omega, .inl ⟨i' + d + 1, by omega, by omega, by rw [runE_snoc, hs]⟩⟩
    · rw [g2]
      exact ⟨hm, hrd.1, hr, hrd.2⟩
    · rw [hs]
      exact ⟨by simp only; omega, by simp; omega, by simp only [INF] at *; omega, by simp only [INF] at *; omega, by omega⟩
  | ins i m t him hm h1 h2 h3 ht hlt h4 h5 =>
    obtain ⟨i', e1, e2, e3⟩ := hst.resolve_right (by rintro ⟨i', e1, _⟩; omega)
    have : i' = i := by omega
    subst this
    obtain ⟨d, rfl⟩ : ∃ d, m = i' + d := ⟨m - i', by omega⟩
    obtain ⟨g1, g2⟩ := runG.dels hb hg e3 hc0 hc1 (by omega) d (by omega) hlt
    have h0 := (delC_bound hb.d i' (i' + d)).1
    have hin := hb.ins t ht
    have hin0 := hb.nn.ins t
    rw [h5, h3, show i' + d - i' = d by omega, ← List.append_assoc, h4, satA_min hc1 hc0 (by omega)]
    have hs : stE x (runE x (ops ++ Go.Proofs.dels d)) (3, (t : Int)) = ⟨i' + d, y ++ [(t : Int)], min (c + (delC x i' (i' + d) + insAt x t)) INF⟩ := by
      rw [g2]
      show (⟨i' + d, y ++ [(t : Int)], min (min (c + delC x i' (i' + d)) INF + insAt x t) INF⟩ : ES) = _
      congr 1
      simp only [INF] at *
      omega
    refine ⟨g1.snoc ⟨by simp, by simp, by simp⟩ ?_ ?_, by simp only [INF] at *; omega, by simp only [INF] at *; omega, .inl ⟨i' + d, by omega, by omega, by rw [runE_snoc, hs]⟩⟩
    · rw [g2]
      exact ⟨ht, hin0, hin⟩
    · rw [hs]
      exact ⟨by simp only; omega, by simp; omega, by simp only [INF] at *; omega, by simp only [INF] at *; omega, by omega⟩
  | sw1 i m him hsw h1 h2 h3 hlt h4 h5 =>
    obtain ⟨i', e1, e2, e3⟩ := hst.resolve_right (by rintro ⟨i', e1, _⟩; omega)
    have : i' = i := by omega
    subst this
    have hql := swapOk_lt hsw
    obtain ⟨d, rfl⟩ : ∃ d, m = i' + d := ⟨m - i', by omega⟩
    obtain ⟨g1, g2⟩ := runG.dels hb hg e3 hc0 hc1 (by omega) d (by omega) hlt
    have h0 := (delC_bound hb.d i' (i' + d)).1
    have hsw0 := hb.nn.swap
    have hsw1 := hb.sw
    rw [h5, h3, show i' + d - i' = d by omega, ← List.append_assoc, h4, satA_min hc1 hc0 (by omega)]
    have hs : stE x (runE x (ops ++ Go.Proofs.dels d)) (4, 0) = ⟨i' + d + 2, y ++ [(x.columns.getD (i' + d + 1) default).kind] ++ [(x.columns.getD (i' + d) default).kind], min (c + (delC x i' (i' + d) + x.swap)) INF⟩ := by
      rw [g2]
      show (⟨i' + d + 2, y ++ [(x.columns.getD (i' + d + 1) default).kind, (x.columns.getD (i' + d) default).kind], min (min (c + delC x i' (i' + d)) INF + x.swap) INF⟩ : ES) = _
      have e : min (min (c + delC x i' (i' + d)) INF + x.swap) INF = min (c + (delC x i' (i' + d) + x.swap)) INF := by
        simp only [INF] at *
        omega
      rw [e, List.append_assoc]
      rfl
    refine ⟨g1.snoc ⟨by decide, by decide, by decide⟩ ?_ ?_, by simp only [INF] at *; omega, by simp only [INF] at *; omega, .inr ⟨i' + d, by omega, hsw, by rw [runE_snoc, hs]⟩⟩
    · rw [g2]
      exact ⟨rfl, hsw, hsw0, hsw1⟩
    · rw [hs]
      exact ⟨by simp only; omega, by simp; omega, by simp only [INF] at *; omega, by simp only [INF] at *; omega, by omega⟩
  | sw2 i hsw h1 h2 h3 h4 h5 =>
    obtain ⟨i', e1, e2, e3⟩ := hst.resolve_left (by rintro ⟨i', e1, _⟩; omega)
    have : i' = i := by omega
    subst this
    have hql := swapOk_lt hsw
    rw [h5, List.append_nil, h4, h3, satA_min hc1 hc0 (by omega)]
    have e : min (c + 0) INF = c := by omega
    rw [e]
    exact ⟨hg, hc0, hc1, .inl ⟨i' + 2, by omega, by omega, e3⟩⟩
end Go.Proofs
/- The script of an accepting path realizes it: plain laws. Conditions: none. -/
namespace Go.Proofs
open Go.DM
set_option linter.unusedSimpArgs false
set_option linter.unusedVariables false

def labelL (arcs : List Arc) (path : List Int) : List Int := path.map fun k => (arcs.getD k.toNat default).term
theorem path_inv {x : Input} (hb : bnd x) {path : List Int} (hl : path.length ≤ 1000) : ∀ (j : Nat), j ≤ path.length → ∀ s c, pathF (refArcs x) (path.take j) = some (s, c) → ∃ ops, walkL (refArcs x) (path.take j) = some (s, ops) ∧ pInv x (labelL (refArcs x) (path.take j)) s ops c
  | 0, _, s, c, h => by
    simp only [pathF, List.take_zero, List.foldl_nil, Option.some.injEq, Prod.mk.injEq] at h
    obtain ⟨rfl, rfl⟩ := h
    refine ⟨[], rfl, ⟨fun j hj => ?_, fun o ho => by simp at ho, fun j hj => by simp at hj⟩, by omega, by simp [INF], .inl ⟨0, rfl, by omega, rfl⟩⟩
    have hn := hb.n
    simp only [List.length_nil, Nat.le_zero] at hj
    subst hj
    exact ⟨by simp [runE], by simp [runE], by simp [runE], by simp [runE, INF], by omega⟩
  | j + 1, hj, s, c, h => by
    have hjl : j < path.length := by omega
    rw [pathF_succ hjl] at h
    cases hp : pathF (refArcs x) (path.take j) with
    | none => rw [hp] at h; simp [stepP] at h
    | some q =>
      obtain ⟨s0, c0⟩ := q
      rw [hp] at h
      obtain ⟨ops, hw, hi⟩ := path_inv hb hl j (by omega) s0 c0 hp
      rw [walk_succ hjl, hw]
      obtain ⟨k, hk⟩ : ∃ k, path.getD j default = k := ⟨_, rfl⟩
      rw [hk] at h ⊢
      simp only [stepP] at h
      split at h
      · cases h
      · rename_i hc
        simp only [Option.some.injEq, Prod.mk.injEq] at h
        obtain ⟨rfl, rfl⟩ := h
        have hkl : k.toNat < (refArcs x).length := by omega
        have hf : ((refArcs x).getD k.toNat default).f = s0 := by
          by_cases e : ((refArcs x).getD k.toNat default).f = s0
          · exact e
          · exact absurd (.inr (.inr e)) hc
        have ham : (refArcs x).getD k.toNat default ∈ refArcs x := by rw [List.getD, List.getElem?_eq_getElem hkl]; exact List.getElem_mem hkl
        refine ⟨ops ++ ((refArcs x).getD k.toNat default).ops, by simp only [stepW, if_neg hc], ?_⟩
        have hll : (labelL (refArcs x) (path.take j)).length ≤ 1000 := by simp [labelL]; omega
        have := hi.step hb hll (arc_ops hb.d hb.nn ham) hf
        have e : labelL (refArcs x) (path.take (j + 1)) = labelL (refArcs x) (path.take j) ++ [((refArcs x).getD k.toNat default).term] := by
          have ek : path[j] = k := by rw [← hk]; simp [List.getD, hjl]
          rw [List.take_add_one, List.getElem?_eq_getElem hjl, Option.toList_some]
          unfold labelL
          rw [List.map_append, ek]
          rfl
        rw [e]
        exact this
theorem memD {l : List Int} {v : Nat} (h : v < l.length) : l.getD v default ∈ l := by
  rw [List.getD, List.getElem?_eq_getElem h]; exact List.getElem_mem h
theorem fair_bnd {x : Input} {k : Int} (hf : fairP x k) : bnd x := by
  obtain ⟨h1, h2, h3, h4⟩ := fair_ok hf
  refine ⟨by omega, h1.1, fair_nn hf, fun m t hm ht => ?_, fun t ht => ?_, h1.2.2.2.2.2⟩
  · have hc := h4 (x.columns.getD m default) (by simp [List.getD, hm])
    have hcol := h1.2.1 (x.columns.getD m default) (by simp [List.getD, hm])
    refine ⟨by omega, ?_⟩
    have hlt : t < (x.columns.getD m default).read.length := by omega
    exact hcol.2 _ (memD hlt)
  · exact (h1.2.2.2.1 (insAt x t) (memD ht)).2
/-- What Path, Script and the run of the script say of a path. -/
theorem script_run {x : Input} {k : Int} (hf : fairP x k) {path : List Int} (hl : path.length ≤ 500) :
    ((pathL (refBuildL x) path).2.2 = false ∧ (scriptL x.columns.length (refBuildL x) path).2 = 1) ∨
    ((pathL (refBuildL x) path).2.2 = true ∧ (scriptL x.columns.length (refBuildL x) path).2 = 0 ∧ runOkE x (scriptL x.columns.length (refBuildL x) path).1 ∧
      (runE x (scriptL x.columns.length (refBuildL x) path).1).out = labelL (refArcs x) path ∧ (runE x (scriptL x.columns.length (refBuildL x) path).1).cost = (pathL (refBuildL x) path).2.1) := by
  have hb := fair_bnd hf
  have hn := hb.n
  have hlen := script_len (l := refBuildL x) (fair_fit hf) (by omega) x.columns.length path
  have hp := path_inv hb (path := path) (by omega) path.length (Nat.le_refl _)
  rw [List.take_length] at hp
  have hwp := walk_path (refArcs x) path
  obtain ⟨ops, hops⟩ : ∃ o, (scriptL x.columns.length (refBuildL x) path) = o := ⟨_, rfl⟩
  rw [hops] at hlen ⊢
  unfold scriptL at hops
  unfold pathL
  have earcs : (refBuildL x).arcs = refArcs x := rfl
  rw [earcs] at hops ⊢
  cases hpf : pathF (refArcs x) path with
  | none =>
    rw [hpf] at hwp
    cases hw : walkL (refArcs x) path with
    | some q => rw [hw] at hwp; cases hwp
    | none =>
      rw [hw] at hops
      simp only at hops
      subst hops
      exact .inl ⟨rfl, rfl⟩
  | some q =>
    obtain ⟨s, c⟩ := q
    obtain ⟨out, hw, hg, hc0, hc1, hst⟩ := hp s c hpf
    rw [hw] at hops
    simp only at hops ⊢
    rcases hst with ⟨i, rfl, hin, hr⟩ | ⟨i, rfl, hsw, hr⟩
    · have hfin := ref_fin x (s := 2 * i) (by omega)
      rw [if_pos (by omega), show 2 * i / 2 = i by omega] at hfin
      have e2 : ((2 * i : Nat) : Int).toNat = 2 * i := by omega
      have e3 : (2 * (i : Int)).toNat = 2 * i := by omega
      rw [e3, hfin] at hops
      rw [e3, hfin]
      by_cases h : 1099511627776 ≤ delC x i x.columns.length
      · rw [if_pos h] at hops
        rw [if_pos h]
        subst hops
        exact .inl ⟨rfl, rfl⟩
      · rw [if_neg h] at hops
        rw [if_neg h]
        obtain ⟨d, hd⟩ : ∃ d, x.columns.length = i + d := ⟨x.columns.length - i, by omega⟩
        have ed : ((x.columns.length : Int) - 2 * (i : Int) / 2).toNat = d := by omega
        rw [ed] at hops
        rw [hd] at h
        have hll : (labelL (refArcs x) path).length ≤ 999990 := by simp [labelL]; omega
        obtain ⟨g1, g2⟩ := runG.dels hb hg hr hc0 hc1 hll d (by omega) (by simp only [INF]; omega)
        have hdn := (delC_bound hb.d i (i + d)).1
        subst hops
        simp only at hlen ⊢
        refine .inr ⟨trivial, trivial, ⟨g1.st, g1.kind, g1.can, by rw [g2]; simp only; omega, by omega⟩, by rw [g2], ?_⟩
        rw [g2, hd, satA_min hc1 hc0 hdn]
    · have hql := swapOk_lt hsw
      have hfin := ref_fin x (s := 2 * i + 1) (by omega)
      rw [if_neg (by omega)] at hfin
      have e3 : (2 * (i : Int) + 1).toNat = 2 * i + 1 := by omega
      rw [e3, hfin, if_pos (by omega)] at hops
      rw [e3, hfin, if_pos (by omega)]
      subst hops
      exact .inl ⟨rfl, rfl⟩
end Go.Proofs
/- Law 14: the script of an accepting path realizes it. Conditions: none. -/
namespace Go.Proofs
open Go.DM
set_option linter.unusedSimpArgs false
set_option linter.unusedVariables false

theorem walkS_mem (arcs : List Arc) : ∀ (ts : List Int) (s : Int), ∀ v ∈ walkS arcs ts s, 0 ≤ v ∧ v < arcs.length
  | [], s, v, h => by simp [walkS] at h
  | t :: ts, s, v, h => by
    unfold walkS at h
    split at h
    · simp at h
    · rename_i hne
      rcases List.mem_cons.1 h with rfl | h
      · obtain ⟨k, hk, hk2, _⟩ := outs_mem (pick1_mem (t := t) hne)
        omega
      · exact walkS_mem arcs ts _ v h
def decU8 (rows : List (List T)) : List Int := rows.map fun | [.int _ n] => n | _ => 0
@[simp] theorem decU8_enc (l : List Int) : decU8 (u8T l) = l := map_map_id (fun n => rfl) l
abbrev h4 : DM.Spec := specP (fun ts => ts = []) (fun _ => .bool true) true
abbrev h9 : DM.Spec := specP (fun ts => ∃ (x : Input) (t : List Int) (k : Int), ts = [(refBuildL x).enc, .sl (u8T t)] ∧ fairP x k ∧ t.length ≤ 1000 ∧ ∀ v ∈ t, 0 ≤ v ∧ v ≤ 255) (fun | [l, .sl t] => .sl (intsT (walkS (decL l).arcs (decU8 t) 0)) | _ => .bool false) false
abbrev h10 : DM.Spec := specP (fun ts => ∃ (x : Input) (p : List Int) (k : Int), ts = [(refBuildL x).enc, .sl (intsT p)] ∧ fairP x k ∧ p.length ≤ 1000) (fun | [l, .sl p] => .tup [ti (pathL (decL l) (decInts p)).1, ti (pathL (decL l) (decInts p)).2.1, .bool (pathL (decL l) (decInts p)).2.2] | _ => .bool false) false
abbrev h12 : DM.Spec := specP (fun ts => ∃ (x : Input) (l : List (Int × Int)), ts = [x.enc, .sl (opsT l)] ∧ runOkE x l) (fun | [x, .sl l] => .tup [.sl (intsT (runE (decX x) (decOps l)).out), ti 0] | _ => .bool false) false
abbrev h13 : DM.Spec := specP (fun ts => ∃ (x : Input) (l : List (Int × Int)), ts = [x.enc, .sl (opsT l)] ∧ runOkE x l) (fun | [x, .sl l] => .tup [ti (runE (decX x) (decOps l)).cost, ti 0] | _ => .bool false) true
abbrev h14 : DM.Spec := specP (fun ts => ∃ a : List Int, ts = [.sl (intsT a), .sl (intsT a)] ∧ a.length ≤ 1000000000) (fun _ => .bool true) true
theorem okLaw : EnvOk Tryd.prog (envOf [(4, h4), (5, g11), (6, g12), (7, g13), (8, g14), (9, h9), (10, h10), (11, gS), (12, h12), (13, h13), (14, h14)]) := by
  have fit : ∀ {x : Input} {k : Int}, fairP x k → arcsFit (refBuildL x).final.length (refBuildL x).arcs ∧ (∀ a ∈ (refBuildL x).arcs, 0 ≤ a.cost) ∧ (∀ v ∈ (refBuildL x).final, 0 ≤ v) ∧ 0 < (refBuildL x).final.length ∧ x.columns.length ≤ 1000000 ∧ (refBuildL x).final.length ≤ 1000000 ∧ (refBuildL x).arcs.length ≤ 1000000000 := by
    intro x k hf
    obtain ⟨h1, h2, h3, h4⟩ := fair_ok hf
    have hl : (refBuildL x).final.length = 2 * x.columns.length + 1 := refFin_len x _
    have hg := refArcs_good h1 h2
    have hal : (refBuildL x).arcs.length ≤ 900000 := refArcs_len (by omega) h2
    refine ⟨fun a ha => ?_, fun a ha => (hg a ha).2.2.2.2.2, refFin_nn h1, by omega, by omega, by omega, by omega⟩
    obtain ⟨b1, b2, b3, b4, b5, b6⟩ := hg a ha
    rw [hl]
    exact ⟨b1, b2, b3, b4, b5⟩
  refine EnvOk.cons (EnvOk.cons (EnvOk.cons (EnvOk.cons (EnvOk.cons (EnvOk.cons (EnvOk.cons (EnvOk.cons (EnvOk.cons (EnvOk.cons (EnvOk.cons EnvOk.nil ?_) ?_) ?_) ?_) ?_) ?_) ?_) ?_) ?_) ?_) ?_
  · rintro ts ⟨a, rfl, h⟩
    exact ⟨by simpa using t26 a a (by omega), fun _ => rfl⟩
  · rintro ts ⟨x, l, rfl, h⟩
    exact ⟨by simpa using t913 x l h, fun _ => rfl⟩
  · rintro ts ⟨x, l, rfl, h⟩
    exact ⟨by simpa using t912 x l h, fun h => by cases h⟩
  · rintro ts ⟨x, p, k, rfl, h, hp⟩
    obtain ⟨f1, f2, f3, f4, f5, f6, f7⟩ := fit h
    exact ⟨by simpa using t20 x (refBuildL x) p f1 f4 f5 f6 f7 hp, fun h => by cases h⟩
  · rintro ts ⟨x, p, k, rfl, h, hp⟩
    obtain ⟨f1, f2, f3, f4, f5, f6, f7⟩ := fit h
    exact ⟨by simpa using t40 (refBuildL x) p f1 f2 f3 f4 f6 f7 hp, fun h => by cases h⟩
  · rintro ts ⟨x, t, k, rfl, h, ht, hb⟩
    obtain ⟨f1, f2, f3, f4, f5, f6, f7⟩ := fit h
    exact ⟨by simpa using t909 (refBuildL x) t f7 (by omega) hb, fun h => by cases h⟩
  · rintro ts ⟨x, k, rfl, h⟩
    obtain ⟨h1, h2, h3, h4⟩ := fair_ok h
    exact ⟨by simpa using t14 x h1 h2 (by omega) h4, fun h => by cases h⟩
  · rintro ts ⟨a, b, rfl, h1, h2, h3⟩
    exact ⟨by simpa using t13 a b h1 h2 h3, fun _ => rfl⟩
  · rintro ts ⟨x, k, rfl, h⟩
    exact ⟨by simpa using fair_build h, fun h => by cases h⟩
  · rintro ts ⟨x, k, rfl⟩
    exact ⟨by simpa using t11 x k, fun _ => rfl⟩
  · rintro ts rfl
    exact ⟨t10, fun _ => rfl⟩
set_option maxRecDepth 20000 in
set_option maxHeartbeats 8000000 in
theorem t903 (x : Input) (ts : List Int) (hts : ∀ t ∈ ts, 0 ≤ t ∧ t ≤ 255) (htl : ts.length ≤ 9223372036854775807) : CallsOk Tryd.prog 3 [x.enc, .sl (u8T ts)] (.bool true) := by
  have hΓ := okLaw
  obtain ⟨cols, ins, sw⟩ := x
  obtain ⟨xt, hxt⟩ : ∃ t, (⟨cols, ins, sw⟩ : Input).enc = t := ⟨_, rfl⟩
  have hxe : T.agg [.sl (colsT cols), .sl (intsT ins), ti sw] = xt := hxt
  have hxd : decX xt = ⟨cols, ins, sw⟩ := by rw [← hxt]; simp
  refine c903.ok (by simp) (initSt_sat ?_)
  simp [Input.enc]
  refine SatD.regSeq hΓ follows [1, 2] ?_
  simp [d903r0]
  refine SatD.le (Le.keep (o := []) (l := [(1, .v (.sl (u8T ts))), (2, .v (.box [.sl (colsT cols), .sl (intsT ins), ti sw]))]) (nxt' := 1200) ?_ ?_ ?_ ?_) ?_
  · simp
  · simp
  · simp
  · simp
  refine SatD.seq ?_
  refine SatD.regSeq hΓ follows [1, 2, 19] ?_
  simp [d903r1]
  refine SatD.cond rfl (fun hcc => by cases hcc) (fun hcc => ?_)
  refine SatD.skip ?_
  simp
  refine SatD.seq ?_
  obtain ⟨c1, hc1⟩ : ∃ c : Bool, decide (¬ fairP ⟨cols, ins, sw⟩ 6 ∨ 12 < (ts.length : Int)) = c := ⟨_, rfl⟩
  refine SatD.regToS hΓ follows [(1, .v (.sl (u8T ts))), (2, .v (.box [.sl (colsT cols), .sl (intsT ins), ti sw])), (27, .v (.bool c1))] ?_ ?_
  · by_cases q1 : fairP ⟨cols, ins, sw⟩ 6
    · by_cases q3 : 12 < (ts.length : Int)
      · have : c1 = true := by rw [← hc1]; simp [q3]
        simp [d903r3, hxe, hxd, q1, q3, this]
        exact ⟨_, hxt.symm⟩
      · have : c1 = false := by rw [← hc1]; simp only [decide_eq_false_iff_not]; rintro (h | h) <;> contradiction
        simp [d903r3, hxe, hxd, q1, q3, this]
        exact ⟨_, hxt.symm⟩
    · have : c1 = true := by rw [← hc1]; simp [q1]
      simp [d903r3, hxe, hxd, q1, this]
      exact ⟨_, hxt.symm⟩
  refine SatD.cond rfl (fun h1 => ?_) (fun h1 => ?_)
  · skip
    refine SatD.regSeq hΓ follows [4] ?_
    simp [d903r4]
    refine SatD.ret ?_
    simp [d903res]
  · rw [h1] at hc1
    simp only [decide_eq_false_iff_not, not_or, Classical.not_not] at hc1
    obtain ⟨hf, hy8⟩ := hc1
    refine SatD.skip ?_
    simp
    have hal : (refBuildL ⟨cols, ins, sw⟩).arcs = refArcs ⟨cols, ins, sw⟩ := rfl
    have hrun := fun (P : List Int) (hp : P.length ≤ 500) => script_run hf hp
    obtain ⟨l, hl⟩ : ∃ l, refBuildL ⟨cols, ins, sw⟩ = l := ⟨_, rfl⟩
    have hv := ref_valid hf
    have hlo := fair_lens hf
    rw [hl] at hv hlo hrun hal
    obtain ⟨s0, arcs, fin⟩ := l
    simp only at hal
    subst hal
    obtain ⟨arcs, harcs⟩ : ∃ a, refArcs ⟨cols, ins, sw⟩ = a := ⟨_, rfl⟩
    rw [harcs] at hl hv hlo hrun
    obtain ⟨lt, hlt⟩ : ∃ t, (⟨s0, arcs, fin⟩ : Lattice).enc = t := ⟨_, rfl⟩
    have hle : T.agg [ti s0, .sl (arcsT arcs), .sl (intsT fin)] = lt := hlt
    have hld : decL lt = ⟨s0, arcs, fin⟩ := by rw [← hlt]; simp
    refine SatD.regSeq hΓ follows [1, 2, 5] ?_
    simp [d903r5, hxe, hxd, hl, Lattice.enc]
    refine ⟨⟨_, hxt.symm, 6, hf⟩, ?_⟩
    refine SatD.le (Le.keep (o := []) (l := [(1, .v (.sl (u8T ts))), (2, .v (.box [.sl (colsT cols), .sl (intsT ins), ti sw])), (5, .v (.box [ti s0, .sl (arcsT arcs), .sl (intsT fin)]))]) (nxt' := 2200) ?_ ?_ ?_ ?_) ?_
    · simp
    · simp
    · simp
    · simp
    refine SatD.seq ?_
    refine SatD.regToS hΓ follows [(1, .v (.sl (u8T ts))), (2, .v (.box [.sl (colsT cols), .sl (intsT ins), ti sw])), (5, .v (.box [ti s0, .sl (arcsT arcs), .sl (intsT fin)])), (34, .v (.bool false))] ?_ ?_
    · simp [d903r6, hxe, hxd, hl, hle, hld, hlt, sameP]
      exact ⟨⟨_, hxt.symm, 6, hf⟩, ⟨⟨s0, arcs, fin⟩, ⟨hlt.symm, ⟨⟨s0, arcs, fin⟩, hlt.symm⟩⟩, ⟨by have := hlo.1; omega, hlo.2⟩⟩⟩
    refine SatD.cond rfl (fun hcc => by cases hcc) (fun hcc => ?_)
    refine SatD.skip ?_
    simp
    obtain ⟨P, hP⟩ : ∃ P, walkS arcs ts 0 = P := ⟨_, rfl⟩
    have hPm : ∀ v ∈ P, 0 ≤ v ∧ v < arcs.length := by rw [← hP]; exact walkS_mem arcs ts 0
    have hPl : P.length ≤ 12 := by
      have := walkS_len arcs ts 0
      rw [hP] at this
      omega
    have hlr : lt = (refBuildL ⟨cols, ins, sw⟩).enc := by rw [hl, hlt]
    refine SatD.regSeq hΓ follows [2, 5, 6] ?_
    simp [d903r8, hle, hld, hP]
    refine ⟨⟨_, ts, ⟨hlr, rfl⟩, ⟨6, hf⟩, by omega, hts⟩, ?_⟩
    obtain ⟨⟨ps, pc, pk⟩, hpl⟩ : ∃ q, pathL ⟨s0, arcs, fin⟩ P = q := ⟨_, rfl⟩
    refine SatD.regSeq hΓ follows [2, 5, 6, 8, 9] ?_
    simp [d903r9, hle, hld, hpl]
    refine ⟨⟨_, P, ⟨hlr, rfl⟩, ⟨6, hf⟩, by omega⟩, ?_⟩
    obtain ⟨⟨ops, er⟩, hsl⟩ : ∃ q, scriptL cols.length ⟨s0, arcs, fin⟩ P = q := ⟨_, rfl⟩
    have hr := hrun P (by omega)
    simp only [hpl, hsl] at hr
    refine SatD.regSeq hΓ follows [2, 5, 6, 8, 9, 10, 11] ?_
    simp [d903r10, hxe, hxd, hle, hld, hsl]
    refine ⟨⟨_, P, ⟨hxt.symm, hlr, rfl⟩, ⟨6, hf⟩, by omega⟩, ?_⟩
    refine SatD.seq ?_
    refine SatD.regSeq hΓ follows [2, 5, 6, 8, 10, 11, 53] ?_
    simp [d903r11]
    refine SatD.cond rfl (fun h5 => ?_) (fun h5 => ?_)
    · have h5 : pk = false := by simpa using h5
      subst h5
      have her : er = 1 := by
        rcases hr with hr | hr
        · exact hr.2
        · exact absurd hr.1 (by decide)
      subst her
      refine SatD.regSeq hΓ follows [4] ?_
      simp [d903r12]
      refine SatD.ret ?_
      simp [d903res]
    · have h5 : pk = true := by simpa using h5
      subst h5
      obtain ⟨_, her, hro, hout, hcost⟩ := hr.resolve_left (fun h => absurd h.1 (by decide))
      subst her
      refine SatD.skip ?_
      simp
      refine SatD.regSeq hΓ follows [2, 5, 6, 8, 10, 11, 12] ?_
      simp [d903r13]
      refine SatD.le (Le.keep (o := []) (l := [(2, .v (.box [.sl (colsT cols), .sl (intsT ins), ti sw])), (5, .v (.box [ti s0, .sl (arcsT arcs), .sl (intsT fin)])), (6, .v (.sl (intsT P))), (8, .v (ti pc)), (10, .v (.sl (opsT ops))), (11, .v (ti 0)), (12, .nil0)]) (nxt' := 7000) ?_ ?_ ?_ ?_) ?_
      · simp
      · simp
      · simp
      · simp
      refine SatD.le (Le.nilSlot (k := 12) 3 (sz := 1) (by omega) (by simp)) ?_
      rw [obs_setO]
      refine SatD.seq ?_
      refine SatD.regSeq hΓ follows [2, 5, 6, 8, 10, 11, 12, 13] ?_
      simp [d903r14]
      refine SatD.block ?_
      refine SatD.loop (fun j : Nat => ⟨DM.look [(2, .v (.box [.sl (colsT cols), .sl (intsT ins), ti sw])), (5, .v (.box [ti s0, .sl (arcsT arcs), .sl (intsT fin)])), (6, .v (.sl (intsT P))), (8, .v (ti pc)), (10, .v (.sl (opsT ops))), (11, .v (ti 0)), (12, .aref 7000 0), (13, .v (ti j))], obs [(7000, .arr 0 3 1 (intsT (labelL arcs (P.take j))))], 7500, 1000, []⟩)
        (fun j => j ≤ P.length) (fun j => P.length - j) 0 (Le.keep ?_ ?_ ?_ ?_) (by simp) (fun j hj => ?_)
      · simp
      · simp
      · simp [labelL, intsT]
      · simp
      refine SatD.seq ?_
      refine SatD.regSeq hΓ follows [2, 5, 6, 8, 10, 11, 12, 13, 59] ?_
      simp [d903r15]
      refine SatD.cond rfl (fun hcc => ?_) (fun hcc => ?_)
      · have hjl : j < P.length := by simpa using hcc
        refine SatD.skip ?_
        simp
        refine SatD.seq ?_
        refine SatD.block ?_
        have rp := rowAt_ints hjl
        obtain ⟨k, hk⟩ : ∃ k, P.getD j default = k := ⟨_, rfl⟩
        rw [hk] at rp
        have hkb := hPm k (by rw [← hk]; exact memD hjl)
        obtain ⟨k, rfl⟩ := Int.eq_ofNat_of_zero_le hkb.1
        have hkl : k < arcs.length := by omega
        have ra := rowAt_arcs hkl
        obtain ⟨a, ha⟩ : ∃ a, arcs.getD k default = a := ⟨_, rfl⟩
        rw [ha] at ra
        have hlab : intsT (labelL arcs (P.take (j + 1))) = intsT (labelL arcs (P.take j)) ++ [[ti a.term]] := by
          have ek : P[j] = (k : Int) := by rw [← hk]; simp [List.getD, hjl]
          rw [List.take_add_one, List.getElem?_eq_getElem hjl, Option.toList_some, ek]
          simp only [labelL, List.map_append, intsT, List.map_cons, List.map_nil, Int.toNat_natCast, ha]
        have hll : (labelL arcs (P.take j)).length ≤ 12 := by simp [labelL]; omega
        refine SatD.reg hΓ follows [2, 5, 6, 8, 10, 11, 12, 13] ?_
        simp [d903r16, hjl, rp, hkl, ra, Arc.enc, roomOk, chunk]
        refine ⟨⟨by omega, by omega⟩, ?_⟩
        refine SatD.reg hΓ follows [2, 5, 6, 8, 10, 11, 12, 13] ?_
        simp [d903r17]
        rw [wrap_id (by omega)]
        refine ⟨j + 1, Le.keep ?_ ?_ ?_ ?_, by omega, by omega⟩
        · simp
        · simp
        · simp [hlab]
        · simp
      · have hjl : j = P.length := by simp at hcc; omega
        subst hjl
        rw [List.take_length]
        refine SatD.exit ?_
        simp
        obtain ⟨LB, hLB⟩ : ∃ q, labelL arcs P = q := ⟨_, rfl⟩
        rw [hLB] at hout
        rw [hLB]
        have hLl : LB.length ≤ 12 := by rw [← hLB]; simp [labelL]; omega
        have hpr : ∃ (x2 : Input) (l2 : List (Int × Int)), (xt = x2.enc ∧ opsT ops = opsT l2) ∧ runOkE x2 l2 := ⟨_, ops, ⟨hxt.symm, rfl⟩, hro⟩
        refine SatD.regSeq hΓ follows [2, 8, 10, 11, 12, 14, 15] ?_
        simp [d903r18, hxe, hxd, hout]
        refine ⟨hpr, ?_⟩
        refine SatD.regSeq hΓ follows [8, 11, 12, 14, 15, 16, 17] ?_
        simp [d903r19, hxe, hxd, hcost]
        refine ⟨hpr, ?_⟩
        refine SatD.le (Le.keep (o := []) (l := [(8, .v (ti pc)), (11, .v (ti 0)), (12, .v (.sl (intsT LB))), (14, .v (.sl (intsT LB))), (15, .v (ti 0)), (16, .v (ti pc)), (17, .v (ti 0))]) (nxt' := 9000) ?_ ?_ ?_ ?_) ?_
        · simp
        · simp
        · simp
        · simp
        refine SatD.regSeq hΓ follows [4] ?_
        simp [d903r20]
        refine ⟨⟨LB, rfl, by omega⟩, ?_⟩
        refine SatD.ret ?_
        simp [d903res]
end Go.Proofs
