/- The D-machine, part K: operations of one region that do not touch one another may change places. Conditions: none. -/
import Derived.Test.YtecgedikabjcdaaDmJ
namespace Go.DM
open Go.RowKit
set_option linter.unusedSimpArgs false
set_option linter.unusedVariables false

/-- 0: it neither reads nor writes objects; 1: it reads them; 2: it lays a new one; 3: it writes one; 4: it may do anything. -/
def cls : DOp → Nat
  | .alloc _ | .box _ | .mkSlice .. => 2
  | .store .. | .append .. => 3
  | .load .. | .eqT .. | .idxAddr .. | .len _ | .call .. => 1
  | .callS .. | .callv .. => 4
  | _ => 0

section
variable {Γ : Env} {d : DOp} {name : Nat} {ρ ρ' : Nat → DV} {objs objs' : Obs}

theorem map_ev_congr {xs : List Opd} (h : ∀ x ∈ xs, x.ev ρ = x.ev ρ') : xs.map (·.ev ρ) = xs.map (·.ev ρ') := List.map_congr_left h

theorem sem_reads (h : ∀ x ∈ opdsOf d, x.ev ρ = x.ev ρ') : sem Γ d name ρ objs = sem Γ d name ρ' objs := by
  cases d
  case build z ps =>
    have : ps.map (fun p => (p.1, p.2.1, p.2.2.ev ρ)) = ps.map (fun p => (p.1, p.2.1, p.2.2.ev ρ')) := List.map_congr_left fun p hp => by rw [h p.2.2 (List.mem_map.2 ⟨p, hp, rfl⟩)]
    simp only [sem, this]
  case bslice n sz z ps =>
    have : ps.map (fun p => (p.1, p.2.1, p.2.2.ev ρ)) = ps.map (fun p => (p.1, p.2.1, p.2.2.ev ρ')) := List.map_congr_left fun p hp => by rw [h p.2.2 (List.mem_map.2 ⟨p, hp, rfl⟩)]
    simp only [sem, this]
  case slice sz x lo hi =>
    have h1 := h x (by simp [opdsOf])
    have h2 : lo.map (·.ev ρ) = lo.map (·.ev ρ') := by cases lo <;> simp; exact h _ (by simp [opdsOf])
    have h3 : hi.map (·.ev ρ) = hi.map (·.ev ρ') := by cases hi <;> simp; exact h _ (by simp [opdsOf])
    simp only [sem, h1, h2, h3]
  case call f xs => simp only [sem, map_ev_congr (xs := xs) h]
  case callS f xs => rfl
  case callv x xs => rfl
  case mkFn f xs => simp only [sem, map_ev_congr (xs := xs) h]
  all_goals (simp only [opdsOf, List.mem_cons, List.not_mem_nil, or_false, forall_eq_or_imp, forall_eq] at h; simp only [sem, h])

theorem sem_free (h : cls d = 0 ∨ cls d = 2) : sem Γ d name ρ objs = sem Γ d name ρ objs' := by
  cases d <;> first | rfl | (simp [cls] at h; done)

mutual
/-- Every name in a value stands for an object. -/
def RefOk (objs : Obs) : DV → Prop
  | .ptr r _ | .aref r _ | .aptr r _ _ _ => objs r ≠ none
  | .agg cs => RefOks objs cs
  | _ => True
def RefOks (objs : Obs) : List DV → Prop
  | [] => True
  | d :: ds => RefOk objs d ∧ RefOks objs ds
end

mutual
theorem RefOk.of_rel {w : World} {W : Nat → Prop} {L : Loc} : ∀ (d : DV) (x : Value), RelD w W objs L d x → RefOk objs d
  | .ptr r off, x, h => by simp only [RelD] at h; obtain ⟨⟨cs, hc⟩, _⟩ := h; simp [RefOk, hc]
  | .aref r ver, x, h => by simp only [RelD] at h; obtain ⟨_, v, e, s, rows, hc, _⟩ := h; simp [RefOk, hc]
  | .aptr r ver i off, x, h => by simp only [RelD] at h; obtain ⟨_, v, e, s, rows, hc, _⟩ := h; simp [RefOk, hc]
  | .agg cs, x, h => by simp only [RelD] at h; obtain ⟨vs, _, hr⟩ := h; simp only [RefOk]; exact RefOks.of_rel cs _ hr
  | .undef, _, _ | .skip, _, _ | .v _, _, _ | .nil0, _, _ | .tptr _ _ _, _, _ | .bptr _ _, _, _ | .yld, _, _ => by simp [RefOk]
theorem RefOks.of_rel {w : World} {W : Nat → Prop} {L : Loc} : ∀ (ds : List DV) (xs : List Value), RelDs w W objs L ds xs → RefOks objs ds
  | [], _, _ => by simp [RefOks]
  | d :: ds, xs, h => by
    simp only [RelDs] at h
    obtain ⟨x, xs', _, _, h1, h2⟩ := h
    simp only [RefOks]
    exact ⟨RefOk.of_rel d x h1, RefOks.of_rel ds xs' h2⟩
end

mutual
theorem RefOk.names : ∀ (d : DV), RefOk objs d → ∀ n ∈ names d, objs n ≠ none
  | .ptr r off, h, n, hn => by simp only [DM.names, List.mem_singleton] at hn; subst hn; simpa only [RefOk] using h
  | .aref r ver, h, n, hn => by simp only [DM.names, List.mem_singleton] at hn; subst hn; simpa only [RefOk] using h
  | .aptr r ver i off, h, n, hn => by simp only [DM.names, List.mem_singleton] at hn; subst hn; simpa only [RefOk] using h
  | .agg cs, h, n, hn => by simp only [DM.names] at hn; simp only [RefOk] at h; exact RefOks.names cs h n hn
  | .undef, _, n, hn | .skip, _, n, hn | .v _, _, n, hn | .nil0, _, n, hn | .tptr _ _ _, _, n, hn | .bptr _ _, _, n, hn => by simp [DM.names] at hn
theorem RefOks.names : ∀ (ds : List DV), RefOks objs ds → ∀ n ∈ namesL ds, objs n ≠ none
  | [], _, n, hn => by simp [namesL] at hn
  | d :: ds, h, n, hn => by
    simp only [RefOks] at h
    simp only [namesL, List.mem_append] at hn
    rcases hn with hn | hn
    · exact RefOk.names d h.1 n hn
    · exact RefOks.names ds h.2 n hn
end

def Ext (objs objs' : Obs) : Prop := ∀ r, objs r ≠ none → objs' r = objs r

mutual
theorem tOf_ext : ∀ (d : DV), (∀ n ∈ names d, objs' n = objs n) → tOf objs' d = tOf objs d
  | .aref r ver, hr => by simp only [tOf, hr r (by simp [names])]
  | .agg cs, hr => by simp only [tOf, tOfs_ext cs (fun n hn => hr n (by simpa only [names] using hn))]
  | .undef, _ | .skip, _ | .v _, _ | .nil0, _ | .ptr _ _, _ | .tptr _ _ _, _ | .bptr _ _, _ | .aptr _ _ _ _, _ | .yld, _ => by simp [tOf]
theorem tOfs_ext : ∀ (ds : List DV), (∀ n ∈ namesL ds, objs' n = objs n) → tOfs objs' ds = tOfs objs ds
  | [], _ => rfl
  | d :: ds, hr => by simp only [tOfs, tOf_ext d (fun n hn => hr n (by simp [namesL, hn])), tOfs_ext ds (fun n hn => hr n (by simp [namesL, hn]))]
end
mutual
theorem tOk_ext (l : Bool) : ∀ (d : DV), (∀ n ∈ names d, objs' n = objs n) → tOk l objs' d = tOk l objs d
  | .aref r ver, hr => by simp only [tOk, hr r (by simp [names])]
  | .agg cs, hr => by simp only [tOk, tOks_ext l cs (fun n hn => hr n (by simpa only [names] using hn))]
  | .undef, _ | .skip, _ | .v _, _ | .nil0, _ | .ptr _ _, _ | .tptr _ _ _, _ | .bptr _ _, _ | .aptr _ _ _ _, _ | .yld, _ => by simp [tOk]
theorem tOks_ext (l : Bool) : ∀ (ds : List DV), (∀ n ∈ namesL ds, objs' n = objs n) → tOks l objs' ds = tOks l objs ds
  | [], _ => rfl
  | d :: ds, hr => by simp only [tOks, tOk_ext l d (fun n hn => hr n (by simp [namesL, hn])), tOks_ext l ds (fun n hn => hr n (by simp [namesL, hn]))]
end
theorem tOfs_pure : ∀ (ds : List DV), pureCells ds → tOfs objs ds = tOfs objs' ds
  | [], _ => rfl
  | d :: ds, h => by
    simp only [pureCells] at h
    simp only [tOfs, tOfs_pure ds h.2]
    congr 1
    have := h.1
    cases d <;> first | rfl | exact this.elim

theorem namesL_map {xs : List Opd} {n : Nat} : n ∈ namesL (xs.map (·.ev ρ)) → ∃ x ∈ xs, n ∈ names (x.ev ρ) := by
  induction xs with
  | nil => simp [namesL]
  | cons x xs ih =>
    simp only [List.map_cons, namesL, List.mem_append]
    rintro (h | h)
    · exact ⟨x, by simp, h⟩
    · obtain ⟨y, hy, hn⟩ := ih h
      exact ⟨y, by simp [hy], hn⟩

theorem names_cells (d : DV) : ∀ n ∈ namesL (cellsOf d), n ∈ names d := by
  have hv : ∀ cs : List T, namesL (cs.map .v) = [] := by
    intro cs
    induction cs with
    | nil => rfl
    | cons c cs ih => simp only [List.map_cons, namesL, names, ih, List.append_nil]
  intro n hn
  cases d with
  | v t => cases t <;> simp [cellsOf, namesL, names, hv] at hn
  | agg cs => simpa [cellsOf, names] using hn
  | _ => simpa [cellsOf, namesL] using hn

/-- An operation does not see objects that no name of its operands reaches. -/
theorem sem_names (hr : ∀ x ∈ opdsOf d, ∀ n ∈ names (x.ev ρ), objs' n = objs n) : sem Γ d name ρ objs' = sem Γ d name ρ objs := by
  by_cases h0 : cls d = 0 ∨ cls d = 2
  · exact sem_free h0
  cases d <;> first | exact absurd (Or.inl rfl) h0 | exact absurd (Or.inr rfl) h0 | rfl | skip
  case load n agg x =>
    have hx := hr x (by simp [opdsOf])
    simp only [sem]
    cases hv : x.ev ρ <;> rw [hv] at hx <;> simp only [names, List.mem_singleton, forall_eq] at hx <;> first | rfl | (simp only [loadSem, hx]; done) | (rename_i t; cases t <;> rfl)
  case store n x y =>
    have hx := hr x (by simp [opdsOf])
    have hy := hr y (by simp [opdsOf])
    have hyc : tOfs objs' (cellsOf (y.ev ρ)) = tOfs objs (cellsOf (y.ev ρ)) := tOfs_ext _ fun n hn => hy n (names_cells _ n hn)
    simp only [sem]
    cases hv : x.ev ρ <;> rw [hv] at hx <;> simp only [names, List.mem_singleton, forall_eq] at hx <;> first | rfl | (simp only [storeSem, hx, hyc]; done) | (rename_i t; cases t <;> rfl)
  case eqT neg agg shs x y =>
    have hx := hr x (by simp [opdsOf])
    have hy := hr y (by simp [opdsOf])
    simp only [sem, tOk_ext true _ hx, tOk_ext true _ hy, tOf_ext _ hx, tOf_ext _ hy]
  case idxAddr sz x i =>
    have hx := hr x (by simp [opdsOf])
    simp only [sem]
    cases hv : x.ev ρ <;> rw [hv] at hx <;> simp only [names, List.mem_singleton, forall_eq] at hx <;> first | rfl | skip
    · rename_i t
      cases t <;> first | rfl | (cases i.ev ρ <;> first | rfl | (rename_i t; cases t <;> rfl))
    · cases i.ev ρ <;> first | rfl | skip
      rename_i t
      cases t <;> first | rfl | (simp only [idxSem, hx])
  case len x =>
    have hx := hr x (by simp [opdsOf])
    simp only [sem]
    cases hv : x.ev ρ <;> rw [hv] at hx <;> simp only [names, List.mem_singleton, forall_eq] at hx <;> first | rfl | (simp only [lenSem, hx]; done) | (rename_i t; cases t <;> rfl)
  case call f xs =>
    have hx : ∀ n ∈ namesL (xs.map (·.ev ρ)), objs' n = objs n := fun n hn => by obtain ⟨x, hx, hn⟩ := namesL_map hn; exact hr x hx n hn
    simp only [sem, callSem, tOks_ext _ _ hx, tOfs_ext _ hx]
  case append e sz bytes x y =>
    have hx := hr x (by simp [opdsOf])
    have hy := hr y (by simp [opdsOf])
    have hs : srcRows objs' (y.ev ρ) = srcRows objs (y.ev ρ) := by
      cases hv : y.ev ρ <;> rw [hv] at hy <;> simp only [names, List.mem_singleton, forall_eq] at hy <;> first | rfl | (simp only [srcRows, hy]; done) | (rename_i t; cases t <;> rfl)
    simp only [sem, appendSem, hs]
    cases srcRows objs (y.ev ρ) with
    | none => rfl
    | some ys =>
      cases hv : x.ev ρ <;> rw [hv] at hx <;> simp only [names, List.mem_singleton, forall_eq] at hx <;> first | rfl | (simp only [hx]; done) | (rename_i t; cases t <;> rfl)

theorem sem_ext (h : Ext objs objs') (hr : ∀ x ∈ opdsOf d, RefOk objs (x.ev ρ)) : sem Γ d name ρ objs' = sem Γ d name ρ objs :=
  sem_names fun x hx n hn => h n (RefOk.names _ (hr x hx) n hn)

/-- What is written is named by an operand. -/
theorem put_named {r : Nat} {o : Ob} (h : cls d = 3) (hp : (sem Γ d name ρ objs).put = some (r, o)) : r = name ∨ ∃ x ∈ opdsOf d, r ∈ names (x.ev ρ) := by
  cases d <;> first | (simp [cls] at h; done) | skip
  case store n x y =>
    simp only [sem] at hp
    unfold storeSem at hp
    split at hp
    · rename_i hv
      split at hp
      · simp only [Option.some.injEq, Prod.mk.injEq] at hp; obtain ⟨rfl, _⟩ := hp; exact .inr ⟨x, by simp [opdsOf], by simp [hv, names]⟩
      · cases hp
    · rename_i hv
      split at hp
      · simp only [Option.some.injEq, Prod.mk.injEq] at hp; obtain ⟨rfl, _⟩ := hp; exact .inr ⟨x, by simp [opdsOf], by simp [hv, names]⟩
      · cases hp
    · cases hp
  case append e sz by' x y =>
    simp only [sem] at hp
    unfold appendSem at hp
    split at hp
    · cases hp
    · split at hp
      · simp only [Option.some.injEq, Prod.mk.injEq] at hp; exact .inl hp.1.symm
      · rename_i hv
        split at hp
        · simp only [Option.some.injEq, Prod.mk.injEq] at hp; obtain ⟨rfl, _⟩ := hp; exact .inr ⟨x, by simp [opdsOf], by simp [hv, names]⟩
        · cases hp
      · cases hp

theorem put_none (h : cls d = 0 ∨ cls d = 1) : (sem Γ d name ρ objs).put = none := by
  cases d <;> first | (simp [cls] at h; done) | rfl | skip
  case pick c a b => simp only [sem]; split <;> rfl
  case bslice => simp only [sem]; split <;> rfl
  case load n agg x => simp only [sem]; unfold loadSem; (repeat' split) <;> rfl
  case bin op x y => simp only [sem]; unfold binSem; (repeat' split) <;> rfl
  case un op x => simp only [sem]; unfold unSem; (repeat' split) <;> rfl
  case conv k x => simp only [sem]; split <;> rfl
  case addOff k x => simp only [sem]; unfold addOffSem; (repeat' split) <;> rfl
  case nilCheck x => simp only [sem]; unfold nilCheckSem; (repeat' split) <;> rfl
  case idxAddr sz x i => simp only [sem]; unfold idxSem; (repeat' split) <;> rfl
  case arrAddr n sz x i => simp only [sem]; unfold arrAddrSem; (repeat' split) <;> rfl
  case field off n agg x => simp only [sem]; unfold fieldSem; (repeat' split) <;> rfl
  case slice sz x lo hi => simp only [sem]; unfold sliceSem; (repeat' split) <;> rfl
  case extract i x => simp only [sem]; unfold extractSem; (repeat' split) <;> rfl
  case call f xs => simp only [sem]; unfold callSem; (repeat' split) <;> rfl
  case len x => simp only [sem]; unfold lenSem; (repeat' split) <;> rfl
  case lenS x => simp only [sem]; unfold lenSSem; (repeat' split) <;> rfl
  case minmax m x y => simp only [sem]; unfold minmaxSem; (repeat' split) <;> rfl

theorem put_new {r : Nat} {o : Ob} (h : cls d = 2) (hp : (sem Γ d name ρ objs).put = some (r, o)) : r = name := by
  cases d <;> first | (simp [cls] at h; done) | skip
  case alloc z => simp only [sem, Option.some.injEq, Prod.mk.injEq] at hp; exact hp.1.symm
  case box x => simp only [sem, Option.some.injEq, Prod.mk.injEq] at hp; exact hp.1.symm
  case mkSlice e sz by' z n =>
    simp only [sem] at hp
    unfold makeSem at hp
    split at hp
    · simp only [Option.some.injEq, Prod.mk.injEq] at hp; exact hp.1.symm
    · cases hp
theorem put_old {r : Nat} {o : Ob} (h : cls d = 3) (hp : (sem Γ d name ρ objs).put = some (r, o)) : r = name ∨ objs r ≠ none := by
  cases d <;> first | (simp [cls] at h; done) | skip
  case store n x y =>
    simp only [sem] at hp
    unfold storeSem at hp
    split at hp
    · split at hp
      · rename_i hc; simp only [Option.some.injEq, Prod.mk.injEq] at hp; obtain ⟨rfl, _⟩ := hp; exact .inr (by simp [hc])
      · cases hp
    · split at hp
      · rename_i hc; simp only [Option.some.injEq, Prod.mk.injEq] at hp; obtain ⟨rfl, _⟩ := hp; exact .inr (by simp [hc])
      · cases hp
    · cases hp
  case append e sz by' x y =>
    simp only [sem] at hp
    unfold appendSem at hp
    split at hp
    · cases hp
    · split at hp
      · simp only [Option.some.injEq, Prod.mk.injEq] at hp; exact .inl hp.1.symm
      · split at hp
        · rename_i hc; simp only [Option.some.injEq, Prod.mk.injEq] at hp; obtain ⟨rfl, _⟩ := hp; exact .inr (by simp [hc])
        · cases hp
      · cases hp
end
end Go.DM
