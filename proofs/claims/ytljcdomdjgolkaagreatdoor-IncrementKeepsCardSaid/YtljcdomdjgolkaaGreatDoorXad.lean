/- The D-machine, part I: one theorem over all operations but calls of Go functions. Conditions: none. -/
import Derived.Test.YtljcdomdjgolkaaGreatDoorXac
import Derived.OrdersIn
import Derived.RangeFuncCalls
namespace Go.DM
open Go.RowKit
set_option linter.unusedSimpArgs false
set_option linter.unusedVariables false
set_option linter.unusedSectionVars false
variable [Laid]
section
variable {P : Program} {base : Nat} {W M : Nat → Prop} {w0 : World} {objs : Obs} {L : Loc} {w : World} {a : Act} {o : Oper} {Γ : Env} {name : Nat} {ρ : Nat → DV} {d : DOp}

theorem tOf_relT {lend : Bool} (W' : Nat → Prop) (hO : RelO base W M w0 objs w L) (hW : lend = true → ∀ r o b, objs r = some o → L.own r o = some b → ¬ W' b) (hW2 : ∀ b, W' b → WW W objs L b) :
    (∀ (d : DV) (x : Value), RelD w W objs L d x → tOk lend objs d → RelT w W' (tOf objs d) x) ∧ (∀ (ds : List DV) (xs : List Value), RelDs w W objs L ds xs → tOks lend objs ds → RelL w W' (tOfs objs ds) xs) := by
  have hk : Keeps (WW W objs L) w w := Keeps.refl _ _
  have one : ∀ (n : Nat), (∀ (d : DV) (x : Value), SizeOf.sizeOf d < n → RelD w W objs L d x → tOk lend objs d → RelT w W' (tOf objs d) x) ∧ (∀ (ds : List DV) (xs : List Value), SizeOf.sizeOf ds < n → RelDs w W objs L ds xs → tOks lend objs ds → RelL w W' (tOfs objs ds) xs) := by
    intro n
    induction n with
    | zero => exact ⟨fun _ _ h => by omega, fun _ _ h => by omega⟩
    | succ n ih =>
      refine ⟨fun d x hn h hok => ?_, fun ds xs hn h hok => ?_⟩
      · cases d with
        | v t => simp only [RelD] at h; simp only [tOf]; exact RelT.keep hk.toKeepsC (fun b _ hb => hW2 b hb) t x h
        | nil0 =>
          simp only [RelD] at h
          obtain ⟨p, rfl⟩ := h
          simp only [tOf, RelT]
          exact .inl ⟨trivial, p, 0, rfl⟩
        | aref r ver =>
          simp only [tOk] at hok
          obtain ⟨hl, hok⟩ := hok
          simp only [RelD] at h
          obtain ⟨_, ver', e, sz, rows, hc, _, hv⟩ := h
          simp only [hc] at hok
          have hv := hv hok
          subst hv
          simp only [tOf, hc, RelT]
          have hob := hO.ob r _ hc
          obtain ⟨hsz, hrows, hm, hal⟩ := hob
          rcases hal with ⟨rfl, p, hp⟩ | ⟨g', cap, cur, hv', hp, hh, hle, hcap, hcur, hrel⟩
          · exact .inl ⟨rfl, p, 0, hp⟩
          · have hcb : capBlock (L.sl r) = some g' := by simp [hv', capBlock, Nat.pos_iff_ne_zero.1 hp]
            refine .inr ⟨g', 0, cap, sz, hv', (Array.getElem?_eq_some_iff.1 hh).1, hW hl r _ g' hc (by simpa [Loc.own] using hcb), hle, ?_⟩
            have hrr := ObOk.rows (hO.ob r _ hc) (g := g') (by simp [hv', capBlock, Nat.pos_iff_ne_zero.1 hp])
            by_cases hg : g' < w.heap.size
            · obtain ⟨vs, hvl, hvr, hvc⟩ := RelRows.flatten hrr
              exact RelRows.of_flatten (RelL.keep hk.toKeepsC (fun b _ hb => hW2 b hb) _ _ hvr) hrows hvc
            · exact absurd (Array.getElem?_eq_some_iff.1 hh).1 hg
        | agg cs =>
          simp only [RelD] at h
          obtain ⟨vs, rfl, hr⟩ := h
          simp only [tOf, RelT]
          simp only [tOk] at hok
          exact ⟨vs, rfl, ih.2 cs _ (by simp at hn ⊢; omega) hr hok⟩
        | clo f cs =>
          simp only [RelD] at h
          obtain ⟨vs, rfl, hr⟩ := h
          simp only [tOf, RelT]
          simp only [tOk] at hok
          exact ⟨vs, rfl, ih.2 cs _ (by simp at hn ⊢; omega) hr hok⟩
        | asl r ver lo m =>
          simp only [tOk] at hok
          obtain ⟨hl, hok⟩ := hok
          simp only [RelD] at h
          obtain ⟨_, ver', e, sz, rows, hc, _, hv⟩ := h
          simp only [hc] at hok
          have hv := hv hok.1
          simp only [tOf, hc, RelT]
          have htl : ((rows.drop lo).take m).length = m := by rw [List.length_take, List.length_drop]; omega
          rcases asl_rows hO hc hv with ⟨rfl, a, c, rfl⟩ | ⟨g, c, hcb, rfl, hnc, hr⟩
          · exact .inl ⟨by simp, a, c, rfl⟩
          · refine .inr ⟨g, lo * sz, c, sz, by rw [htl], (hO.ob r _ hc).lt (by simpa [Loc.own] using hcb), hW hl r _ g hc (by simpa [Loc.own] using hcb), by omega, ?_⟩
            obtain ⟨vs, hvl, hvr, hvc⟩ := RelRows.flatten hr
            exact RelRows.of_flatten (RelL.keep hk.toKeepsC (fun b _ hb => hW2 b hb) _ _ hvr) (fun x hx => (hO.ob r _ hc).2.1 x (List.mem_of_mem_drop (List.mem_of_mem_take hx))) hvc
        | _ => exact hok.elim
      · cases ds with
        | nil => simpa [RelDs, RelL, tOfs] using h
        | cons d ds =>
          simp only [RelDs] at h
          obtain ⟨x, xs', rfl, h1, h2, hr⟩ := h
          simp only [tOks] at hok
          simp only [tOfs, RelL]
          exact ⟨x, xs', rfl, h1, ih.1 d x (by simp at hn ⊢; omega) h2 hok.1, ih.2 ds xs' (by simp at hn ⊢; omega) hr hok.2⟩
  exact ⟨fun d x => (one (SizeOf.sizeOf d + 1)).1 d x (by omega), fun ds xs => (one (SizeOf.sizeOf ds + 1)).2 ds xs (by omega)⟩

theorem eqSem_leaf {neg agg : Bool} {shs : List Sh} {t u : T} (h : ¬ ((∃ as, t = .agg as) ∧ ∃ bs, u = .agg bs)) : eqSem neg agg shs t u = ⟨agg = false ∧ fitsT shs [t] ∧ fitsT shs [u], .v (.bool (neg ^^ eqTB t u)), none⟩ := by
  cases t <;> first | rfl | (cases u <;> first | rfl | exact absurd ⟨⟨_, rfl⟩, ⟨_, rfl⟩⟩ h)

theorem sh_leaf {n : Nat} {t : TypeId} {s : Sh} {desc : TypeDesc} (hs : shOf P (n + 1) t = some [s]) (hd : P.underlying t = some desc) (ha : aggDesc desc = false) : (s = .bool ∧ desc = .bool) ∨ (s = .str ∧ desc = .string) ∨ ∃ k, s = .int k ∧ desc = .int k := by
  simp only [shOf, hd] at hs
  cases desc
  case bool => simp at hs; exact .inl ⟨hs.symm, rfl⟩
  case int k => simp at hs; exact .inr (.inr ⟨k, hs.symm, rfl⟩)
  case string => simp at hs; exact .inr (.inl ⟨hs.symm, rfl⟩)
  case struct => exact absurd ha (by simp [aggDesc])
  case array => exact absurd ha (by simp [aggDesc])
  all_goals exact absurd hs (by simp)

theorem eq_sound {op : BinOp} {t : TypeId} {x y : Operand} {yt : TypeId} {neg : Bool} (hop : op = if neg then .neq else .eql) (ho : o.op = .binOp op t x y yt) {desc : TypeDesc} (hd : P.underlying t = some desc) (hnint : ∀ k, desc ≠ .int k) {shs : List Sh} (hs : shOf P 10000 t = some shs) (hg : P.eqGuardType P.depth t = false)
    (hO : RelO base W M w0 objs w L) {d1 d2 : DV} (h1 : RelD w W objs L d1 (a.eval x)) (h2 : RelD w W objs L d2 (a.eval y)) (k1 : tOk true objs d1) (k2 : tOk true objs d2) (hok : (eqSem neg (aggDesc desc) shs (tOf objs d1) (tOf objs d2)).ok) :
    OpRun P base W M w0 objs L w a o ⟨True, (eqSem neg (aggDesc desc) shs (tOf objs d1) (tOf objs d2)).val, none⟩ := by
  have r1 := (tOf_relT (lend := true) (fun _ => False) hO (fun _ _ _ _ _ _ h => h) (fun _ h => h.elim)).1 d1 _ h1 k1
  have r2 := (tOf_relT (lend := true) (fun _ => False) hO (fun _ _ _ _ _ _ h => h) (fun _ h => h.elim)).1 d2 _ h2 k2
  by_cases hagg : (∃ as, tOf objs d1 = .agg as) ∧ ∃ bs, tOf objs d2 = .agg bs
  · obtain ⟨⟨as, t1⟩, bs, t2⟩ := hagg
    simp only [t1, t2, eqSem] at hok ⊢
    obtain ⟨ha, f1, f2⟩ := hok
    rw [t1] at r1
    rw [t2] at r2
    simp only [RelT] at r1 r2
    obtain ⟨xs, e1, g1⟩ := r1
    obtain ⟨ys, e2, g2⟩ := r2
    have hq : (Op.equal t (.agg xs) (.agg ys)).run P w = .ok (eqTBs as bs) w := by
      have := equalIn_sh 10000 t shs desc hs hd xs.toList ys.toList w (fits_of_fitsT f1 g1) (fits_of_fitsT f2 g2)
      simp only [mkV, ha, if_true, Array.toArray_toList] at this
      rw [eqTs_leaf f1 f2 g1 g2]
      exact this
    have hguard := run_eqGuard_agg w op t x y xs ys hg
    refine OpRun.bool hO rfl rfl ?_
    subst hop
    cases neg <;> simp only [if_true, if_false, Bool.false_eq_true] at ho hguard <;> simp [execOp, ho, e1, e2, hguard, binOp, hq]
  · rw [eqSem_leaf hagg] at hok ⊢
    obtain ⟨ha, f1, f2⟩ := hok
    obtain ⟨s, rfl, g1⟩ := fitsT_one f1
    obtain ⟨s2, hs2, g2⟩ := fitsT_one f2
    obtain rfl : s = s2 := by simpa using hs2
    refine OpRun.bool hO rfl rfl ?_
    rw [eqT_leaf g1 g2 r1 r2]
    subst hop
    cases s with
    | bool =>
      have hdb : P.underlying t = some .bool := by
        rcases sh_leaf (n := 9999) hs hd ha with ⟨_, rfl⟩ | ⟨h, _⟩ | ⟨k, h, _⟩
        · exact hd
        · cases h
        · cases h
      cases h1' : tOf objs d1 <;> rw [h1'] at g1 r1 <;> first | exact absurd g1 Bool.false_ne_true | skip
      cases h2' : tOf objs d2 <;> rw [h2'] at g2 r2 <;> first | exact absurd g2 Bool.false_ne_true | skip
      simp only [RelT] at r1 r2
      cases neg <;> simp [execOp, ho, r1, r2, eqGuard, run_eql_bool, run_neq_bool, hdb, veq]
    | str =>
      cases h1' : tOf objs d1 <;> rw [h1'] at g1 r1 <;> first | exact absurd g1 Bool.false_ne_true | skip
      cases h2' : tOf objs d2 <;> rw [h2'] at g2 r2 <;> first | exact absurd g2 Bool.false_ne_true | skip
      simp only [RelT] at r1 r2
      cases neg <;> simp [execOp, ho, r1, r2, eqGuard, binOp, Op.stringOp, veq, beq_toListBytes]
    | int k =>
      rcases sh_leaf (n := 9999) hs hd ha with ⟨h, _⟩ | ⟨h, _⟩ | ⟨k', _, h⟩
      · cases h
      · cases h
      · exact absurd h (hnint k')

theorem bslice_rows {W' : Nat → Prop} {sz : Nat} : ∀ (n : Nat) (cs : List T) (vs : List Value) (b o : Nat), cs.length = n * sz → RelL w W' cs vs → (∀ j v, vs[j]? = some v → w.cell? ⟨b, o + j, none⟩ = some v) → RelRows w W' sz b o (chunk sz n cs)
  | 0, _, _, _, _, _, _, _ => by simp [chunk, RelRows]
  | n + 1, cs, vs, b, o, hl, hr, hc => by
    have hsz : sz ≤ cs.length := by rw [hl, Nat.add_mul]; omega
    have hvl := RelL.length hr
    simp only [chunk, RelRows]
    refine ⟨by simp; omega, ?_, ?_⟩
    · refine RelAt.of_relL (RelL.take sz hr) fun j v hj => hc j v ?_
      rw [List.getElem?_take] at hj
      split at hj
      · exact hj
      · cases hj
    · refine bslice_rows n _ (vs.drop sz) b (o + sz) (by rw [List.length_drop, hl, Nat.add_mul]; omega) (RelL.drop sz hr) fun j v hj => ?_
      rw [List.getElem?_drop] at hj
      have := hc (sz + j) v hj
      rwa [show o + sz + j = o + (sz + j) by omega]
theorem chunk_length (sz : Nat) : ∀ (n : Nat) (cs : List T), (chunk sz n cs).length = n
  | 0, _ => rfl
  | n + 1, cs => by simp [chunk, chunk_length sz n]

theorem fillD_length : ∀ (ps : List (Nat × Nat × DV)) (ds : List DV), fillOk ds.length ps → (fillD ds ps).length = ds.length
  | [], ds, _ => rfl
  | (off, sz, d) :: ps, ds, h => by
    simp only [fillOk] at h
    obtain ⟨h1, h2, h3, h4⟩ := h
    have hl : (splice ds off (cellsOf d)).length = ds.length := length_splice (by omega)
    simp only [fillD]
    rw [fillD_length ps _ (by rw [hl]; exact h4), hl]

theorem mapM_of_rel (hg : GOk w (WW W objs L)) (hρ : ∀ t, RelD w W objs L (ρ t) (a.tmps.getD t Go.undef)) : ∀ {xs : List Operand} {ys : List Opd}, xs.mapM Opd.of = some ys → ∀ (i : Nat) (x : Operand) (y : Opd), xs[i]? = some x → ys[i]? = some y → RelD w W objs L (y.ev ρ) (a.eval x)
  | [], ys, h, i, x, y, hx, _ => by simp at hx
  | x :: xs, ys, h, i, p, q, hp, hq => by
    simp only [List.mapM_cons, Option.pure_def, Option.bind_eq_bind, Option.bind_eq_some_iff, Option.some.injEq] at h
    obtain ⟨y, hy, ys', hys, rfl⟩ := h
    cases i with
    | zero =>
      simp only [List.getElem?_cons_zero, Option.some.injEq] at hp hq
      subst hp hq
      exact Opd.of_rel hg hρ hy
    | succ i => exact mapM_of_rel hg hρ hys i p q (by simpa using hp) (by simpa using hq)
theorem mapM_of_length : ∀ {xs : List Operand} {ys : List Opd}, xs.mapM Opd.of = some ys → ys.length = xs.length
  | [], ys, h => by simp at h; simp [h]
  | x :: xs, ys, h => by
    simp only [List.mapM_cons, Option.pure_def, Option.bind_eq_bind, Option.bind_eq_some_iff, Option.some.injEq] at h
    obtain ⟨y, hy, ys', hys, rfl⟩ := h
    simp [mapM_of_length hys]

theorem optOpd_rel (hg : GOk w (WW W objs L)) (hρ : ∀ t, RelD w W objs L (ρ t) (a.tmps.getD t Go.undef)) {x : Option Operand} {y : Option Opd} (h : optOpd x = some y) : (y.map (·.ev ρ) = none ∧ x.map a.eval = none) ∨ ∃ dl vl, y.map (·.ev ρ) = some dl ∧ x.map a.eval = some vl ∧ RelD w W objs L dl vl := by
  cases x with
  | none => simp only [optOpd, Option.some.injEq] at h; subst h; exact .inl ⟨rfl, rfl⟩
  | some x =>
    simp only [optOpd, Option.map_eq_some_iff] at h
    obtain ⟨z, hz, rfl⟩ := h
    exact .inr ⟨_, _, rfl, rfl, Opd.of_rel hg hρ hz⟩

theorem pure_one {d : DV} {v : Value} (hp : pureCell d) (h : RelD w W objs L d v) : v.oneCell' = true := by
  cases d with
  | nil0 => simp only [RelD] at h; obtain ⟨p, rfl⟩ := h; rfl
  | v t =>
    simp only [RelD] at h
    cases t with
    | agg ts => exact absurd hp Bool.false_ne_true
    | tup ts => exact absurd hp Bool.false_ne_true
    | raw x => simp only [RelT] at h; subst h; exact hp
    | sl rows => simp only [RelT] at h; rcases h with ⟨_, _, _, rfl⟩ | ⟨_, _, _, _, rfl, _⟩ <;> rfl
    | fn f caps => simp only [RelT] at h; obtain ⟨_, rfl, _⟩ := h; rfl
    | box cs => simp only [RelT] at h; obtain ⟨_, _, rfl, _⟩ := h; rfl
    | bool b => simp only [RelT] at h; subst h; rfl
    | int k n => simp only [RelT] at h; subst h; rfl
    | str k => simp only [RelT] at h; subst h; rfl
  | _ => exact hp.elim
theorem cell_one {d : DV} {v : Value} (hp : cellable d) (h : RelD w W objs L d v) : v.oneCell' = true := by
  cases d with
  | undef => exact hp.elim
  | skip => exact hp.elim
  | agg cs => exact hp.elim
  | tup cs => exact hp.elim
  | v t => exact pure_one (d := .v t) hp h
  | nil0 => simp only [RelD] at h; obtain ⟨p, rfl⟩ := h; rfl
  | ptr r off => simp only [RelD] at h; obtain ⟨_, rfl⟩ := h; rfl
  | aref r ver => simp only [RelD] at h; obtain ⟨⟨_, _, _, rfl⟩, _⟩ := h; rfl
  | tptr rows i off => simp only [RelD] at h; obtain ⟨_, _, _, rfl, _⟩ := h; rfl
  | bptr cs off => simp only [RelD] at h; obtain ⟨_, _, rfl, _⟩ := h; rfl
  | aptr r ver i off => simp only [RelD] at h; obtain ⟨⟨_, _, rfl⟩, _⟩ := h; rfl
  | yld => simp only [RelD] at h; subst h; rfl
  | mref r => simp only [RelD] at h; obtain ⟨_, rfl⟩ := h; rfl
  | iter r => simp only [RelD] at h; obtain ⟨_, rfl⟩ := h; rfl
  | asl r ver lo n => simp only [RelD] at h; obtain ⟨⟨_, _, rfl⟩, _⟩ := h; rfl
  | bsl r n => simp only [RelD] at h; obtain ⟨_, rfl⟩ := h; rfl
  | clo f cs => simp only [RelD] at h; obtain ⟨_, rfl, _⟩ := h; rfl
theorem opds_relC (hg : GOk w (WW W objs L)) (hρ : ∀ t, RelD w W objs L (ρ t) (a.tmps.getD t Go.undef)) : ∀ {xs : List Operand} {ys : List Opd}, xs.mapM Opd.of = some ys → cellables (ys.map (·.ev ρ)) → RelDs w W objs L (ys.map (·.ev ρ)) (xs.map a.eval)
  | [], ys, h, _ => by simp at h; subst h; simp [RelDs]
  | x :: xs, ys, h, hp => by
    simp only [List.mapM_cons, Option.pure_def, Option.bind_eq_bind, Option.bind_eq_some_iff, Option.some.injEq] at h
    obtain ⟨y, hy, ys', hys, rfl⟩ := h
    simp only [List.map_cons, cellables] at hp
    simp only [List.map_cons, RelDs]
    have r := Opd.of_rel hg hρ hy
    exact ⟨_, _, rfl, cell_one hp.1 r, r, opds_relC hg hρ hys hp.2⟩
theorem pureB_iff : ∀ {ds : List DV}, pureB ds = true → pureCells ds
  | [], _ => trivial
  | d :: ds, h => by
    cases d with
    | v t => simp only [pureB, Bool.and_eq_true] at h; exact ⟨h.1, pureB_iff h.2⟩
    | nil0 => simp only [pureB] at h; exact ⟨trivial, pureB_iff h⟩
    | _ => simp [pureB] at h
/-- Every operation that is no call of a Go function. -/
theorem op_sound (hc : compileOp P o = some d) (hcall : ∀ f args, d ≠ .call f args) (hρ : ∀ t, RelD w W objs L (ρ t) (a.tmps.getD t Go.undef)) (hO : RelO base W M w0 objs w L) (hname : objs name = none) (hok : (sem Γ d name ρ objs).ok) :
    OpRun P base W M w0 objs L w a o (sem Γ d name ρ objs) := by
  unfold compileOp at hc
  cases ho : o.op <;> simp only [ho, reduceCtorEq] at hc
  case move x =>
    simp only [Option.map_eq_some_iff] at hc
    obtain ⟨y, hy, rfl⟩ := hc
    exact OpRun.quiet hO rfl (v := a.eval x) (by simp [execOp, ho]) (Opd.of_rel hO.gl hρ hy)
  case assign x =>
    simp only [Option.map_eq_some_iff] at hc
    obtain ⟨y, hy, rfl⟩ := hc
    exact OpRun.quiet hO rfl (v := a.eval x) (by simp [execOp, ho]) (Opd.of_rel hO.gl hρ hy)
  case pick c x y =>
    simp only [Option.pure_def, Option.bind_eq_bind, Option.bind_eq_some_iff, Option.some.injEq] at hc
    obtain ⟨c', hc', x', hx, y', hy, rfl⟩ := hc
    have r := Opd.of_rel hO.gl hρ hc'
    unfold sem at hok ⊢
    simp only at hok ⊢
    split at hok
    · rename_i t ht
      rw [ht] at r
      simp only [RelD, RelT] at r
      refine OpRun.quiet hO rfl (v := if t then a.eval x else a.eval y) (by simp [execOp, ho, r, asBool]) ?_
      cases t
      · exact Opd.of_rel hO.gl hρ hy
      · exact Opd.of_rel hO.gl hρ hx
    · exact hok.elim
  case alloc e =>
    simp only [Option.pure_def, Option.bind_eq_bind, Option.bind_eq_some_iff, Option.some.injEq] at hc
    obtain ⟨i, hi, z, hz, zs, hzs, rfl⟩ := hc
    have h := new_box hO hname e (mapM_constD_rel hzs)
    refine ⟨_, .pointer (some ⟨w.heap.size, 0, none⟩), _, _, ?_, .inl rfl, h.1, h.2, ?_⟩
    · simp [execOp, ho, Instr.alloc, zeroValue, typeInfo, hi, hz, newVar, newRow]
    · simp only [sem, RelD]
      exact ⟨⟨zs, by simp [putO]⟩, by simp [Loc.setBlk]⟩
  case box e x =>
    simp only [Option.map_eq_some_iff] at hc
    obtain ⟨y, hy, rfl⟩ := hc
    have h := new_box hO hname e (RelD.cells (Opd.of_rel hO.gl hρ hy) hok)
    refine ⟨_, .pointer (some ⟨w.heap.size, 0, none⟩), _, _, ?_, .inl rfl, h.1, h.2, ?_⟩
    · simp [execOp, ho, Instr.box, newVar, newRow]
    · simp only [sem, RelD]
      exact ⟨⟨cellsOf (y.ev ρ), by simp [putO]⟩, by simp [Loc.setBlk]⟩
  case build t parts =>
    simp only [Option.pure_def, Option.bind_eq_bind, Option.bind_eq_some_iff, Option.some.injEq] at hc
    obtain ⟨i, hi, z, hz, zs, hzs, pl, hpl, ps, hps, rfl⟩ := hc
    have hzr := mapM_constD_rel (w := w) (W := W) (objs := objs) (L := L) hzs
    have hzl := RelDs.length hzr
    simp only [Array.length_toList] at hzl
    simp only [sem] at hok ⊢
    obtain ⟨cells, h1, h2, h3⟩ := fill_rel hO.gl hρ parts.toList ps hps z.cells zs hzr (by rw [hzl]; exact hok)
    have hb : P.built t (parts.map fun x => (x.1, a.eval x.2)).toList = some cells := by
      unfold Program.built
      unfold places at hpl
      cases hu : P.underlying t with
      | none => simp [hu] at hpl
      | some desc =>
        cases desc <;> simp only [hu, reduceCtorEq] at hpl
        case array n e =>
          simp only [Option.map_eq_some_iff] at hpl
          obtain ⟨ie, hie, rfl⟩ := hpl
          simpa [hi, hz, hie] using h1
        case struct fields =>
          simp only [Option.map_eq_some_iff] at hpl
          obtain ⟨pl', hpl', rfl⟩ := hpl
          simp only [hi, hz, hpl', Array.toList_map]
          simpa using h1
    refine OpRun.quiet hO rfl (v := .agg cells) ?_ (by simp only [RelD]; exact ⟨cells, rfl, h2⟩)
    have := run_build w t (parts.map fun x => (x.1, a.eval x.2)) cells hb
    simp [execOp, ho, this]
  case buildSlice t len parts =>
    split at hc
    · rename_i e hu
      simp only [Option.pure_def, Option.bind_eq_bind, Option.bind_eq_some_iff] at hc
      obtain ⟨i, hi, hc⟩ := hc
      split at hc
      · cases hc
      · rename_i hsz
        simp only [Option.bind_eq_some_iff, Option.some.injEq] at hc
        obtain ⟨z, hz, zs, hzs, ps, hps, rfl⟩ := hc
        have hzr := mapM_constD_rel (w := w) (W := W) (objs := objs) (L := L) hzs
        have hzl := RelDs.length hzr
        have hlen : ¬ len * i.size > 2 ^ 24 := fun h => hsz (.inl h)
        have hpos : i.size ≠ 0 := fun h => hsz (.inr h)
        simp only [Array.length_toList, Array.size_map, Array.size_range] at hzl
        simp only [sem] at hok ⊢
        by_cases h0 : len = 0
        · subst h0
          simp only [if_true] at hok ⊢
          subst hok
          have hp0 : parts.toList = [] := by
            cases hp : parts.toList with
            | nil => rfl
            | cons p ps' =>
              rw [hp] at hps
              simp only [ofParts, List.mapM_cons, Option.pure_def, Option.bind_eq_bind, Option.bind_eq_some_iff, Option.some.injEq, reduceCtorEq, and_false, exists_false] at hps
          have hp1 : parts = #[] := by cases parts; simp_all
          have hr := run_buildSlice (P := P) w hu hi hz 0 (by simp) (parts := #[]) (cells := #[]) (by simp [Instr.fill, Array.range_zero'])
          have hg := RelO.grow hO (below_alloc (w := w) (.cells #[] e))
          refine ⟨_, .slice (some ⟨w.heap.size, 0, none⟩) 0 0, _, L, ?_, .inl rfl, hg.1, hg.2, by simp only [RelD]; exact ⟨_, rfl⟩⟩
          simp [execOp, ho, hp1, hr]
        · simp only [h0, if_false] at hok ⊢
          obtain ⟨hf, hpure⟩ := hok
          obtain ⟨cells, h1, h2, h3⟩ := fill_rel hO.gl hρ parts.toList ps hps _ zs hzr (by simpa using hf)
          have hr := run_buildSlice (P := P) w hu hi hz len hlen (parts := parts.map fun x => (x.1, a.eval x.2)) (cells := cells) (by simpa using h1)
          have hg := RelO.grow hO (below_alloc (w := w) (.cells cells e))
          refine ⟨_, .slice (some ⟨w.heap.size, 0, none⟩) len len, _, L, ?_, .inl rfl, hg.1, hg.2, ?_⟩
          · simp [execOp, ho, hr]
          · have hl2 := relL_of_pure (objs2 := fun _ => none) hpure (RelDs.adv hg.2 _ _ h2)
            simp only [putO, RelD, RelT, chunk_length]
            refine .inr ⟨w.heap.size, 0, len, i.size, rfl, by simp, ?_, Nat.le_refl _, ?_⟩
            · rintro (hw | ⟨r, ob, hr1, hr2⟩)
              · have h1 := hO.under _ hw
                have h2 := hO.fr.size0
                have h3 := hO.fr.size
                omega
              · have := (hO.ob r ob hr1).lt hr2
                omega
            · refine bslice_rows len _ cells.toList _ _ ?_ hl2 fun j v hj => ?_
              · rw [tOfs_length, fillD_length _ _ (by rw [← hzl]; exact hf), ← hzl]
              · rw [Nat.zero_add, cell_of_row (w.alloc (.cells cells e)) w.heap.size j cells e (0, 0) (heap_alloc_new w _)]
                simpa using hj
    · cases hc
  case load t x =>
    split at hc
    · rename_i desc i hd hi
      simp only [Option.map_eq_some_iff] at hc
      obtain ⟨y, hy, rfl⟩ := hc
      simp only [sem] at hok ⊢
      obtain ⟨hp, v, hrun, hv⟩ := load_sound hO hd hi (Opd.of_rel hO.gl hρ hy) hok
      exact OpRun.quiet hO hp (v := v) (by simp [execOp, ho, hrun]) hv
    · cases hc
  case store t x y =>
    simp only [Option.pure_def, Option.bind_eq_bind, Option.bind_eq_some_iff, Option.some.injEq] at hc
    obtain ⟨i, hi, x', hx, y', hy, rfl⟩ := hc
    have rx := Opd.of_rel hO.gl hρ hx
    have ry := Opd.of_rel hO.gl hρ hy
    simp only [sem] at hok ⊢
    cases hd : x'.ev ρ with
    | ptr r off =>
      rw [hd] at rx
      simp only [RelD] at rx
      obtain ⟨⟨cs, hcs⟩, hxv⟩ := rx
      simp only [hd, storeSem, hcs] at hok ⊢
      obtain ⟨w', h1, h2, h3⟩ := store_box hO hi hcs ry hok.1 hok.2.1 hok.2.2
      exact ⟨.skip, Go.undef, w', L, by simp [execOp, ho, hxv, h1], .inr ⟨rfl, rfl⟩, h2, h3, by simp [RelD]⟩
    | aptr r ver j off =>
      rw [hd] at rx
      simp only [RelD] at rx
      obtain ⟨_, ver', e, sz, rows, hcs, _, hx2⟩ := rx
      simp only [hd, storeSem, hcs] at hok ⊢
      obtain ⟨rfl, hn, hfit, hpure⟩ := hok
      obtain ⟨g, hg, hxv, h0, h1⟩ := hx2 rfl
      obtain ⟨w', h1, h2, h3⟩ := store_arr hO hi hcs hg h0 h1 ry hn hfit hpure
      exact ⟨.skip, Go.undef, w', L, by simp [execOp, ho, hxv, h1], .inr ⟨rfl, rfl⟩, h2, h3, by simp [RelD]⟩
    | _ => rw [hd] at hok; exact hok.elim
  case nilCheck x =>
    simp only [Option.map_eq_some_iff] at hc
    obtain ⟨y, hy, rfl⟩ := hc
    have rx := Opd.of_rel hO.gl hρ hy
    simp only [sem] at hok ⊢
    obtain ⟨h1, h2, h3⟩ := nilCheck_sound rx hok
    refine OpRun.quiet hO h1 (v := a.eval x) ?_ (by rw [h2]; exact rx)
    rcases h3 with ⟨p, hp⟩ | ⟨f, caps, hp⟩
    · simp only [execOp, ho, hp]; simp
    · simp only [execOp, ho, hp]; simp
  case binOp op t x y yt =>
    simp only [Option.bind_eq_bind, Option.bind_eq_some_iff] at hc
    obtain ⟨x', hx, y', hy, hc⟩ := hc
    have rx := Opd.of_rel hO.gl hρ hx
    have ry := Opd.of_rel hO.gl hρ hy
    unfold compileBin at hc
    split at hc
    · split at hc
      all_goals first
        | (simp only [Option.some.injEq] at hc; subst hc; exact bin_sound hO ho rx ry hok)
        | cases hc
    · rename_i desc hnint hd
      split at hc
      · rename_i shs hs
        split at hc
        · cases hc
        · rename_i hg
          simp only [Option.some.injEq] at hc
          subst hc
          simp only [sem] at hok ⊢
          obtain ⟨k1, k2, hok⟩ := hok
          exact eq_sound (neg := false) rfl ho hd (fun k hk => hnint k hk) hs (by simpa using hg) hO rx ry k1 k2 hok
      · rename_i shs hs
        split at hc
        · cases hc
        · rename_i hg
          simp only [Option.some.injEq] at hc
          subst hc
          simp only [sem] at hok ⊢
          obtain ⟨k1, k2, hok⟩ := hok
          exact eq_sound (neg := true) rfl ho hd (fun k hk => hnint k hk) hs (by simpa using hg) hO rx ry k1 k2 hok
      · simp only [Option.map_eq_some_iff] at hc
        obtain ⟨k, hk, rfl⟩ := hc
        exact isNil_sound (neg := false) hO rfl ho hd hy hk rx hok
      · simp only [Option.map_eq_some_iff] at hc
        obtain ⟨k, hk, rfl⟩ := hc
        exact isNil_sound (neg := true) hO rfl ho hd hy hk rx hok
      · cases hc
    · cases hc
  case makeMap t hint =>
    cases hint with
    | some h => cases hc
    | none =>
      simp only at hc
      split at hc
      · simp only [Option.map_eq_some_iff] at hc
        obtain ⟨ki, _, rfl⟩ := hc
        exact mkMap_sound hO hname ho _ _
      · cases hc
  case lookup t x k ok =>
    split at hc
    · rename_i kt et ht
      split at hc
      · rename_i ki z hki hz
        simp only [Option.pure_def, Option.bind_eq_bind, Option.bind_eq_some_iff, Option.some.injEq] at hc
        obtain ⟨x', hx, k', hk, rfl⟩ := hc
        exact lookup_sound hO ho ht hki hz (Opd.of_rel hO.gl hρ hx) (Opd.of_rel hO.gl hρ hk) hok
      · cases hc
    · cases hc
  case mapUpdate t x k y =>
    split at hc
    · rename_i kt et ht
      split at hc
      · rename_i ki hki
        simp only [Option.pure_def, Option.bind_eq_bind, Option.bind_eq_some_iff, Option.some.injEq] at hc
        obtain ⟨x', hx, k', hk, y', hy, rfl⟩ := hc
        exact mapUpd_sound hO ho ht hki (Opd.of_rel hO.gl hρ hx) (Opd.of_rel hO.gl hρ hk) (Opd.of_rel hO.gl hρ hy) hok
      · cases hc
    · cases hc
  case mapEntry t x k =>
    split at hc
    · rename_i kt et ht
      split at hc
      · rename_i ki z hki hz
        simp only [Option.pure_def, Option.bind_eq_bind, Option.bind_eq_some_iff, Option.some.injEq] at hc
        obtain ⟨x', hx, k', hk, rfl⟩ := hc
        exact mapEnt_sound hO ho ht hki hz (Opd.of_rel hO.gl hρ hx) (Opd.of_rel hO.gl hρ hk) hok
      · cases hc
    · cases hc
  case entryStore t x s y =>
    simp only [Option.pure_def, Option.bind_eq_bind, Option.bind_eq_some_iff, Option.some.injEq] at hc
    obtain ⟨x', hx, k', hk, y', hy, rfl⟩ := hc
    exact entSt_sound hO ho (Opd.of_rel hO.gl hρ hx) (Opd.of_rel hO.gl hρ hk) (Opd.of_rel hO.gl hρ hy) hok
  case range t x =>
    split at hc
    · rename_i kt et ht
      simp only [Option.map_eq_some_iff] at hc
      obtain ⟨x', hx, rfl⟩ := hc
      exact rangeM_sound hO hname ho ht (Opd.of_rel hO.gl hρ hx) hok
    · cases hc
  case entry x =>
    simp only [Option.map_eq_some_iff] at hc
    obtain ⟨x', hx, rfl⟩ := hc
    exact hok.elim
  case index t x i =>
    split at hc
    · rename_i ht
      simp only [Option.pure_def, Option.bind_eq_bind, Option.bind_eq_some_iff, Option.some.injEq] at hc
      obtain ⟨x', hx, i', hi, rfl⟩ := hc
      exact indexS_sound hO ho ht (Opd.of_rel hO.gl hρ hx) (Opd.of_rel hO.gl hρ hi) hok
    · cases hc
  case panic x => simp only [Option.some.injEq] at hc; subst hc; exact hok.elim
  case makeInterface _ _ => simp only [Option.some.injEq] at hc; subst hc; exact hok.elim
  case unOp op t x =>
    simp only [Option.map_eq_some_iff] at hc
    obtain ⟨y, hy, rfl⟩ := hc
    have rx := Opd.of_rel hO.gl hρ hy
    unfold sem unSem at hok ⊢
    simp only at hok ⊢
    split at hok
    · rename_i b hb
      rw [hb] at rx
      simp only [RelD, RelT] at rx
      split at hok
      · exact OpRun.bool hO rfl rfl (by simp [execOp, ho, rx, Op.unary])
      · exact hok.elim
    · rename_i k n hb
      rw [hb] at rx
      simp only [RelD, RelT] at rx
      split at hok
      · exact OpRun.int hO rfl rfl (by simp [execOp, ho, rx, Op.unary, Op.intArith])
      · exact hok.elim
    · exact hok.elim
  case convert src dst x =>
    split at hc
    · rename_i k0 k hs hd
      simp only [Option.map_eq_some_iff] at hc
      obtain ⟨y, hy, rfl⟩ := hc
      have rx := Opd.of_rel hO.gl hρ hy
      unfold sem at hok ⊢
      simp only at hok ⊢
      split at hok
      · rename_i k1 n hb
        rw [hb] at rx
        simp only [RelD, RelT] at rx
        exact OpRun.int hO rfl rfl (by simp [execOp, ho, rx, convert, run_underlying hs, run_underlying hd, Conv.intToInt])
      · exact hok.elim
    · cases hc
  case fieldAddr s x f =>
    split at hc
    · rename_i fs hs
      split at hc
      · rename_i fd hf
        split at hc
        · rename_i fi hi
          split at hc
          · cases hc
          · rename_i hsz
            simp only [Option.map_eq_some_iff] at hc
            obtain ⟨y, hy, rfl⟩ := hc
            have rx := Opd.of_rel hO.gl hρ hy
            simp only [sem] at hok ⊢
            obtain ⟨hp, b, oo, hxv, hv⟩ := addOff_sound rx hok
            refine OpRun.quiet hO hp (v := .pointer (some ⟨b, oo + fd.offset, none⟩)) ?_ hv
            simp [execOp, ho, hxv, Instr.fieldAt, run_underlying hs, hf, Instr.sureAddr, fieldPlace, run_sizeOf hi, hsz, add_off]
        · cases hc
      · cases hc
    · cases hc
  case field s x f =>
    split at hc
    · rename_i fs hs
      split at hc
      · rename_i fd hf
        split at hc
        · rename_i fi desc hi hd
          simp only [Option.map_eq_some_iff] at hc
          obtain ⟨y, hy, rfl⟩ := hc
          have rx := Opd.of_rel hO.gl hρ hy
          simp only [sem] at hok ⊢
          obtain ⟨hp, v, hrun, hv⟩ := field_sound hs hf hi hd rx hok
          exact OpRun.quiet hO hp (v := v) (by simp [execOp, ho, hrun]) hv
        · cases hc
      · cases hc
    · cases hc
  case indexAddr t x ix =>
    split at hc
    · rename_i e ht
      split at hc
      · rename_i i hi
        simp only [Option.pure_def, Option.bind_eq_bind, Option.bind_eq_some_iff, Option.some.injEq] at hc
        obtain ⟨x', hx, y', hy, rfl⟩ := hc
        simp only [sem] at hok ⊢
        obtain ⟨hp, v, hrun, hv⟩ := idx_sound hO ht hi (Opd.of_rel hO.gl hρ hx) (Opd.of_rel hO.gl hρ hy) hok
        exact OpRun.quiet hO hp (v := v) (by simp [execOp, ho, hrun]) hv
      · cases hc
    · rename_i n e ht
      split at hc
      · rename_i i hi
        simp only [Option.pure_def, Option.bind_eq_bind, Option.bind_eq_some_iff, Option.some.injEq] at hc
        obtain ⟨x', hx, y', hy, rfl⟩ := hc
        simp only [sem] at hok ⊢
        obtain ⟨hp, v, hrun, hv⟩ := arrAddr_sound ht hi (Opd.of_rel hO.gl hρ hx) (Opd.of_rel hO.gl hρ hy) hok
        exact OpRun.quiet hO hp (v := v) (by simp [execOp, ho, hrun]) hv
      · cases hc
    · cases hc
  case slice t x lo hi' mx =>
    cases mx with
    | some m => cases hc
    | none =>
      simp only at hc
      split at hc
      · rename_i e ht
        split at hc
        · rename_i i hi
          simp only [Option.pure_def, Option.bind_eq_bind, Option.bind_eq_some_iff, Option.some.injEq] at hc
          obtain ⟨x', hx, lo', hlo, hi2, hhi, rfl⟩ := hc
          simp only [sem] at hok ⊢
          obtain ⟨hp, v, hrun, hv⟩ := slice_sound hO ht hi (Opd.of_rel hO.gl hρ hx) (optOpd_rel hO.gl hρ hlo) (optOpd_rel hO.gl hρ hhi) hok
          exact OpRun.quiet hO hp (v := v) (by simp [execOp, ho, hrun]) hv
        · cases hc
      · cases hc
  case extract x i =>
    simp only [Option.map_eq_some_iff] at hc
    obtain ⟨y, hy, rfl⟩ := hc
    have rx := Opd.of_rel hO.gl hρ hy
    unfold sem extractSem at hok ⊢
    simp only at hok ⊢
    split at hok
    · rename_i ts hb
      rw [hb] at rx
      simp only [RelD, RelT] at rx
      obtain ⟨vs, hv, hr⟩ := rx
      obtain ⟨v, hv2, hr2⟩ := RelA.get hr (i := i) (t := ts.getD i default) (by simp [List.getD, show i < ts.length from hok])
      refine OpRun.quiet hO rfl (v := v) ?_ (by simp only [RelD]; exact hr2)
      have : vs[i]? = some v := by simpa using hv2
      simp [execOp, ho, hv, Instr.extract, this]
    · rename_i ds hb
      rw [hb] at rx
      simp only [RelD] at rx
      obtain ⟨vs, hv, hr⟩ := rx
      have key : ∀ (ds : List DV) (vs : List Value) (i : Nat), RelDa w W objs L ds vs → i < ds.length → ∃ v, vs[i]? = some v ∧ RelD w W objs L (ds.getD i .undef) v := by
        intro ds
        induction ds with
        | nil => intro vs i _ h; simp at h
        | cons d ds ih =>
          intro vs i h hi
          simp only [RelDa] at h
          obtain ⟨v, vs', rfl, h1, h2⟩ := h
          cases i with
          | zero => exact ⟨v, rfl, h1⟩
          | succ i => simpa using ih vs' i h2 (by simpa using hi)
      obtain ⟨v, hv2, hr2⟩ := key ds _ i hr hok
      refine OpRun.quiet hO rfl (v := v) ?_ hr2
      have : vs[i]? = some v := by simpa using hv2
      simp [execOp, ho, hv, Instr.extract, this]
    · exact hok.elim
  case makeSlice t l c =>
    split at hc
    · rename_i e ht
      split at hc
      · rename_i i hi
        split at hc
        · rename_i z hz
          split at hc
          · rename_i p q
            split at hc
            · rename_i hpq
              obtain ⟨rfl, hsz⟩ := hpq
              simp only [Option.pure_def, Option.bind_eq_bind, Option.bind_eq_some_iff, Option.some.injEq] at hc
              obtain ⟨zero, hzero, rfl⟩ := hc
              simp only [sem] at hok ⊢
              obtain ⟨v, w', L', h1, h2, h3, h4⟩ := make_sound hO ht hi hz hsz hzero hname (Opd.of_rel hO.gl hρ (x := .tmp p) rfl) hok
              exact ⟨.value v, v, w', L', by simp [execOp, ho, h1], .inl rfl, h2, h3, h4⟩
            · cases hc
          · rename_i k p k' q
            split at hc
            · rename_i hpq
              obtain ⟨rfl, rfl, hsz⟩ := hpq
              simp only [Option.pure_def, Option.bind_eq_bind, Option.bind_eq_some_iff, Option.some.injEq] at hc
              obtain ⟨zero, hzero, rfl⟩ := hc
              simp only [sem] at hok ⊢
              obtain ⟨v, w', L', h1, h2, h3, h4⟩ := make_sound hO ht hi hz hsz hzero hname (Opd.of_rel (ρ := ρ) hO.gl hρ (x := .const (.int k p)) rfl) hok
              exact ⟨.value v, v, w', L', by simp [execOp, ho, h1], .inl rfl, h2, h3, h4⟩
            · cases hc
          · cases hc
        · cases hc
      · cases hc
    · cases hc
  case makeFunc f first caps =>
    split at hc
    · rename_i hf
      simp only [Option.pure_def, Option.bind_eq_bind, Option.bind_eq_some_iff, Option.some.injEq] at hc
      obtain ⟨cs, hcs, rfl⟩ := hc
      simp only [sem] at hok ⊢
      have hr : RelDs w W objs L (cs.map (·.ev ρ)) (caps.map a.eval).toList := by
        simpa using opds_relC hO.gl hρ hcs hok
      refine OpRun.quiet hO rfl (v := .func f #[] (caps.map a.eval)) ?_ ?_
      · have : first = #[] := by simpa using hf
        simp [execOp, ho, this, Instr.makeFunc]
      · by_cases hpb : pureB (cs.map (·.ev ρ)) = true
        · simp only [hpb, if_true, RelD, RelT]
          exact ⟨_, rfl, relL_of_pure (pureB_iff hpb) hr⟩
        · simp only [hpb, if_false, RelD]
          exact ⟨_, rfl, hr⟩
    · cases hc
  case call c =>
    have hargs : ∀ {xs : List Operand}, c.args.toList = xs → c.args = xs.toArray := fun h => by rw [← h, Array.toArray_toList]
    have htys : ∀ {xs : List TypeId}, c.argTypes.toList = xs → c.argTypes = xs.toArray := fun h => by rw [← h, Array.toArray_toList]
    unfold compileCall at hc
    split at hc
    · split at hc
      · split at hc
        · cases hc
        · simp only [Option.map_eq_some_iff] at hc
          obtain ⟨y, _, rfl⟩ := hc
          exact absurd rfl (hcall _ _)
      · cases hc
    · obtain ⟨ys, _, rfl⟩ := Option.map_eq_some_iff.1 hc
      exact hok.elim
    · rename_i hcal
      split at hc
      · rename_i x t hx ht
        have hce : c = { callee := .builtin .len, args := #[x], argTypes := #[t] } := by
          have h1 := hargs hx
          have h2 := htys ht
          cases c
          simp_all
        subst hce
        split at hc
        · rename_i e hu
          simp only [Option.map_eq_some_iff] at hc
          obtain ⟨y, hy, rfl⟩ := hc
          exact len_sound hO ho hu (Opd.of_rel hO.gl hρ hy) hok
        · rename_i hu
          simp only [Option.map_eq_some_iff] at hc
          obtain ⟨y, hy, rfl⟩ := hc
          exact lenS_sound hO ho hu (Opd.of_rel hO.gl hρ hy) hok
        · rename_i kt et hu
          simp only [Option.map_eq_some_iff] at hc
          obtain ⟨y, hy, rfl⟩ := hc
          exact lenM_sound hO ho hu (Opd.of_rel hO.gl hρ hy) hok
        · cases hc
      · cases hc
    · rename_i hcal
      split at hc
      · rename_i x y t t' hx ht
        have hce : c = { callee := .builtin .copy, args := #[x, y], argTypes := #[t, t'] } := by
          have h1 := hargs hx
          have h2 := htys ht
          cases c
          simp_all
        subst hce
        split at hc
        · rename_i e hu
          split at hc
          · rename_i i hi
            simp only [Option.pure_def, Option.bind_eq_bind, Option.bind_eq_some_iff, Option.some.injEq] at hc
            obtain ⟨x', hx', y', hy', rfl⟩ := hc
            simp only [sem] at hok ⊢
            obtain ⟨v, w', h1, h2, h3, h4⟩ := copy_sound (t := t) (t' := t') (ty := o.type) hO hu hi (Opd.of_rel hO.gl hρ hx') (Opd.of_rel hO.gl hρ hy') hok
            exact ⟨.value v, v, w', L, by simp [execOp, ho, resolve, invoke, builtin, h1], .inl rfl, h2, h3, h4⟩
          · cases hc
        · cases hc
      · cases hc
    · rename_i hcal
      split at hc
      · rename_i x k t ts' hx ht
        have hce : c = { callee := .builtin .delete, args := #[x, k], argTypes := c.argTypes } := by
          have h1 := hargs hx
          cases c
          simp_all
        have hts : c.argTypes[0]? = some t := by rw [← Array.getElem?_toList, ht]; rfl
        split at hc
        · rename_i kt et hu
          split at hc
          · rename_i ki hki
            simp only [Option.pure_def, Option.bind_eq_bind, Option.bind_eq_some_iff, Option.some.injEq] at hc
            obtain ⟨x', hx', k', hk', rfl⟩ := hc
            exact mapDel_sound hO hts (by rw [ho, ← hce]) hu hki (Opd.of_rel hO.gl hρ hx') (Opd.of_rel hO.gl hρ hk') hok
          · cases hc
        · cases hc
      · cases hc
    · rename_i hcal
      split at hc
      · rename_i x y hx
        have hce : c = { callee := .builtin .min, args := #[x, y], argTypes := c.argTypes } := by
          have h1 := hargs hx
          cases c
          simp_all
        simp only [Option.pure_def, Option.bind_eq_bind, Option.bind_eq_some_iff, Option.some.injEq] at hc
        obtain ⟨x', hx', y', hy', rfl⟩ := hc
        exact minmax_sound false hO (by rw [ho, hce]; rfl) (Opd.of_rel hO.gl hρ hx') (Opd.of_rel hO.gl hρ hy') hok
      · cases hc
    · rename_i hcal
      split at hc
      · rename_i x y hx
        have hce : c = { callee := .builtin .max, args := #[x, y], argTypes := c.argTypes } := by
          have h1 := hargs hx
          cases c
          simp_all
        simp only [Option.pure_def, Option.bind_eq_bind, Option.bind_eq_some_iff, Option.some.injEq] at hc
        obtain ⟨x', hx', y', hy', rfl⟩ := hc
        exact minmax_sound true hO (by rw [ho, hce]; rfl) (Opd.of_rel hO.gl hρ hx') (Opd.of_rel hO.gl hρ hy') hok
      · cases hc
    · rename_i hcal
      split at hc
      · rename_i x y t t' hx ht
        have hce : c = { callee := .builtin .append, args := #[x, y], argTypes := #[t, t'] } := by
          have h1 := hargs hx
          have h2 := htys ht
          cases c
          simp_all
        subst hce
        split at hc
        · cases hc
        · rename_i htt
          have htt : t = t' := by simpa using htt
          subst htt
          split at hc
          · rename_i e hu
            split at hc
            · rename_i i hi
              split at hc
              · rename_i z hz
                split at hc
                · rename_i hsz
                  simp only [Option.pure_def, Option.bind_eq_bind, Option.bind_eq_some_iff, Option.some.injEq] at hc
                  obtain ⟨x', hx', y', hy', rfl⟩ := hc
                  simp only [sem] at hok ⊢
                  obtain ⟨v, w', L', h1, h2, h3, h4⟩ := append_sound (ty := o.type) hO hu hi hz hsz.1 hsz.2 hname (Opd.of_rel hO.gl hρ hx') (Opd.of_rel hO.gl hρ hy') hok
                  exact ⟨.value v, v, w', L', by simp [execOp, ho, resolve, invoke, builtin, h1], .inl rfl, h2, h3, h4⟩
                · cases hc
              · cases hc
            · cases hc
          · cases hc
      · cases hc
    · cases hc
theorem mkB_sound (hO : RelO base W M w0 objs w L) {e sz by' : Nat} {zero : List T} {n : Opd} (hc : compileOp P o = some (.mkSlice e sz by' zero n)) (hρ : ∀ t, RelD w W objs L (ρ t) (a.tmps.getD t Go.undef)) (hname : objs name = none)
    (hok : (makeBSem sz by' zero name (n.ev ρ)).ok) : OpRun P base W M w0 objs L w a o (makeBSem sz by' zero name (n.ev ρ)) := by
  unfold compileOp at hc
  cases ho : o.op <;> simp only [ho, reduceCtorEq] at hc
  case makeSlice t l c =>
    split at hc
    · rename_i e' ht
      split at hc
      · rename_i i hi
        split at hc
        · rename_i z hz
          split at hc
          · rename_i p q
            split at hc
            · rename_i hpq
              obtain ⟨rfl, hsz⟩ := hpq
              simp only [Option.pure_def, Option.bind_eq_bind, Option.bind_eq_some_iff, Option.some.injEq, DOp.mkSlice.injEq] at hc
              obtain ⟨zero', hzero, rfl, rfl, rfl, rfl, rfl⟩ := hc
              obtain ⟨v, w', L', h1, h2, h3, h4⟩ := makeB_sound hO ht hi hz hzero hname (Opd.of_rel hO.gl hρ (x := .tmp p) rfl) hok
              exact ⟨.value v, v, w', L', by simp [execOp, ho, h1], .inl rfl, h2, h3, h4⟩
            · cases hc
          · rename_i k p k' q
            split at hc
            · rename_i hpq
              obtain ⟨rfl, rfl, hsz⟩ := hpq
              simp only [Option.pure_def, Option.bind_eq_bind, Option.bind_eq_some_iff, Option.some.injEq, DOp.mkSlice.injEq] at hc
              obtain ⟨zero', hzero, rfl, rfl, rfl, rfl, rfl⟩ := hc
              obtain ⟨v, w', L', h1, h2, h3, h4⟩ := makeB_sound hO ht hi hz hzero hname (Opd.of_rel (ρ := ρ) hO.gl hρ (x := .const (.int k p)) rfl) hok
              exact ⟨.value v, v, w', L', by simp [execOp, ho, h1], .inl rfl, h2, h3, h4⟩
            · cases hc
          · cases hc
        · cases hc
      · cases hc
    · cases hc
  case binOp op t x y yt =>
    exfalso
    simp only [Option.bind_eq_bind, Option.bind_eq_some_iff] at hc
    obtain ⟨x', hx, y', hy, hc⟩ := hc
    unfold compileBin at hc
    repeat' split at hc
    all_goals first | (cases hc; done) | (simp only [Option.map_eq_some_iff, reduceCtorEq, and_false, exists_false] at hc; done)
  case makeMap t h =>
    exfalso
    cases h with
    | some m => cases hc
    | none =>
      simp only at hc
      split at hc
      · simp only [Option.map_eq_some_iff, reduceCtorEq, and_false, exists_false] at hc
      · cases hc
  case slice t x lo hi mx =>
    exfalso
    cases mx with
    | some m => cases hc
    | none =>
      simp only at hc
      repeat' split at hc
      all_goals simp only [Option.map_eq_some_iff, Option.pure_def, Option.bind_eq_bind, Option.bind_eq_some_iff, Option.some.injEq, reduceCtorEq, and_false, exists_false] at hc
  case call c =>
    exfalso
    unfold compileCall at hc
    repeat' split at hc
    all_goals first
      | (cases hc; done)
      | (simp only [Option.map_eq_some_iff, Option.pure_def, Option.bind_eq_bind, Option.bind_eq_some_iff, Option.some.injEq, reduceCtorEq, and_false, exists_false] at hc; done)
      | skip
  all_goals exfalso
  all_goals first
    | (simp only [Option.map_eq_some_iff, reduceCtorEq, and_false, exists_false] at hc; done)
    | (simp only [Option.pure_def, Option.bind_eq_bind, Option.bind_eq_some_iff, Option.some.injEq, reduceCtorEq, and_false, exists_false] at hc; done)
    | (repeat' split at hc) <;> first
        | (simp only [Option.map_eq_some_iff, Option.pure_def, Option.bind_eq_bind, Option.bind_eq_some_iff, Option.some.injEq, reduceCtorEq, and_false, exists_false] at hc; done)
        | (simp [Option.bind_eq_some_iff] at hc; done)
theorem no_mkB {e sz by' : Nat} {zero : List T} {n : Opd} (hc : compileOp P o = some (.mkSliceB e sz by' zero n)) : False := by
  unfold compileOp at hc
  cases ho : o.op <;> simp only [ho, reduceCtorEq] at hc
  case makeSlice t l c =>
    repeat' split at hc
    all_goals first
      | (cases hc; done)
      | (simp only [Option.pure_def, Option.bind_eq_bind, Option.bind_eq_some_iff, Option.some.injEq, reduceCtorEq, and_false, exists_false] at hc; done)
  case binOp op t x y yt =>
    simp only [Option.bind_eq_bind, Option.bind_eq_some_iff] at hc
    obtain ⟨x', hx, y', hy, hc⟩ := hc
    unfold compileBin at hc
    repeat' split at hc
    all_goals first | (cases hc; done) | (simp only [Option.map_eq_some_iff, reduceCtorEq, and_false, exists_false] at hc; done)
  case makeMap t h =>
    cases h with
    | some m => cases hc
    | none =>
      simp only at hc
      split at hc
      · simp only [Option.map_eq_some_iff, reduceCtorEq, and_false, exists_false] at hc
      · cases hc
  case slice t x lo hi mx =>
    cases mx with
    | some m => cases hc
    | none =>
      simp only at hc
      repeat' split at hc
      all_goals simp only [Option.map_eq_some_iff, Option.pure_def, Option.bind_eq_bind, Option.bind_eq_some_iff, Option.some.injEq, reduceCtorEq, and_false, exists_false] at hc
  case call c =>
    unfold compileCall at hc
    repeat' split at hc
    all_goals first
      | (cases hc; done)
      | (simp only [Option.map_eq_some_iff, Option.pure_def, Option.bind_eq_bind, Option.bind_eq_some_iff, Option.some.injEq, reduceCtorEq, and_false, exists_false] at hc; done)
  all_goals first
    | (simp only [Option.map_eq_some_iff, reduceCtorEq, and_false, exists_false] at hc; done)
    | (simp only [Option.pure_def, Option.bind_eq_bind, Option.bind_eq_some_iff, Option.some.injEq, reduceCtorEq, and_false, exists_false] at hc; done)
    | (repeat' split at hc) <;> first
        | (simp only [Option.map_eq_some_iff, Option.pure_def, Option.bind_eq_bind, Option.bind_eq_some_iff, Option.some.injEq, reduceCtorEq, and_false, exists_false] at hc; done)
        | (simp [Option.bind_eq_some_iff] at hc; done)
end
end Go.DM
/- The D-machine, part J: a region's operations one after another, calls of Go functions among them. Conditions: none. -/
namespace Go.DM
open Go.RowKit
set_option linter.unusedSimpArgs false
set_option linter.unusedVariables false
set_option linter.unusedSectionVars false
variable [Laid]

/-- An operation of a region: what it does, the slot that it writes, the slot and the answer that it waits for, the operations that it comes behind. -/
structure RO where
  d : DOp
  dst : Option Nat
  guard : Option (Nat × Bool)
  after : List Nat
  touch : Option (List Nat) := none   -- the names that it may touch, where that must be known

structure RS where
  tmps : Nat → DV
  objs : Obs
  todo : List (List T)

def updT (f : Nat → DV) : Option Nat → DV → Nat → DV
  | none, _ => f
  | some k, v => fun x => if x = k then v else f x

def wantD (g : Option (Nat × Bool)) (ρ : Nat → DV) : Option Bool :=
  match g with
  | none => some true
  | some (s, want) => match ρ s with
    | .v (.bool b) => some (b == want)
    | .skip => some false
    | _ => none

/-- The name that an operation may give: by its slot. -/
def nameOf (nxt : Nat) : Option Nat → Nat
  | some d => nxt + d + 1
  | none => nxt

def eff (Γ : Env) (nxt : Nat) (r : RO) (st : RS) : Eff := sem Γ r.d (nameOf nxt r.dst) st.tmps st.objs

/-- The operands of an operation. -/
def opdsOf : DOp → List Opd
  | .mov x | .box x | .load _ _ x | .un _ x | .conv _ x | .addOff _ x | .nilCheck x | .field _ _ _ x | .extract _ x | .len x | .lenS x | .mkSlice _ _ _ _ x | .mkSliceB _ _ _ _ x | .lenM x | .rangeM x | .entryM x | .isNil _ _ x => [x]
  | .pick c a b => [c, a, b]
  | .alloc _ | .mkMap _ _ | .fail => []
  | .build _ ps | .bslice _ _ _ ps => ps.map (·.2.2)
  | .store _ x y | .bin _ x y | .eqT _ _ _ x y | .idxAddr _ x y | .arrAddr _ _ x y | .minmax _ x y | .append _ _ _ x y | .lookup _ _ _ _ x y | .mapDel _ _ x y | .copy _ x y | .indexS x y => [x, y]
  | .mapUpd _ _ x k y => [x, k, y]
  | .mapEnt _ _ _ x k => [x, k]
  | .entSt x s y => [x, s, y]
  | .slice _ x lo hi => x :: (lo.toList ++ hi.toList)
  | .call _ xs | .callS _ xs | .callF _ xs | .callR _ xs | .mkFn _ xs => xs
  | .callv x xs => x :: xs

/-- It touches no other names than it says. -/
def touchOk (r : RO) (ρ : Nat → DV) : Prop :=
  match r.touch with
  | none => True
  | some l => ∀ x ∈ opdsOf r.d, ∀ n ∈ names (x.ev ρ), n ∈ l

/-- What an operation leaves. -/
def post (Γ : Env) (nxt : Nat) (r : RO) (st : RS) : SEff :=
  if is4 r.d then semS Γ r.d st.tmps st.objs st.todo
  else ⟨(eff Γ nxt r st).ok, (eff Γ nxt r st).val, putO st.objs (eff Γ nxt r st).put, st.todo⟩

def stepOk (Γ : Env) (nxt : Nat) (r : RO) (st : RS) : Prop :=
  match wantD r.guard st.tmps with
  | some true => (post Γ nxt r st).ok ∧ touchOk r st.tmps
  | some false => True
  | none => False

def stepSt (Γ : Env) (nxt : Nat) (r : RO) (st : RS) : RS :=
  match wantD r.guard st.tmps with
  | some true => ⟨updT st.tmps r.dst (post Γ nxt r st).val, (post Γ nxt r st).objs, (post Γ nxt r st).todo⟩
  | some false => ⟨updT st.tmps r.dst .skip, st.objs, st.todo⟩
  | none => st

def scalarT : T → Bool
  | .bool _ | .int _ _ | .str _ => true
  | .tup ts => scalarTs ts
  | .agg ts => scalarTs ts
  | _ => false
where
  scalarTs : List T → Bool
  | [] => true
  | t :: ts => scalarT t && scalarTs ts

theorem scalar_rel : ∀ (n : Nat), (∀ (t : T) (w w' : World) (W W' : Nat → Prop) (v : Value), SizeOf.sizeOf t < n → scalarT t = true → RelT w W t v → RelT w' W' t v) ∧
    (∀ (ts : List T) (w w' : World) (W W' : Nat → Prop) (vs : List Value), SizeOf.sizeOf ts < n → scalarT.scalarTs ts = true → (RelL w W ts vs → RelL w' W' ts vs) ∧ (RelA w W ts vs → RelA w' W' ts vs))
  | 0 => ⟨fun _ _ _ _ _ _ h => by omega, fun _ _ _ _ _ _ h => by omega⟩
  | n + 1 => by
    have ih := scalar_rel n
    refine ⟨fun t w w' W W' v hn hs h => ?_, fun ts w w' W W' vs hn hs => ?_⟩
    · cases t with
      | agg ts => simp only [RelT] at h ⊢; obtain ⟨vs, hv, hr⟩ := h; exact ⟨vs, hv, (ih.2 ts w w' W W' _ (by simp at hn ⊢; omega) hs).1 hr⟩
      | tup ts => simp only [RelT] at h ⊢; obtain ⟨vs, hv, hr⟩ := h; exact ⟨vs, hv, (ih.2 ts w w' W W' _ (by simp at hn ⊢; omega) hs).2 hr⟩
      | bool b => simpa [RelT] using h
      | int k n => simpa [RelT] using h
      | str s => simpa [RelT] using h
      | _ => exact absurd hs Bool.false_ne_true
    · cases ts with
      | nil => exact ⟨fun h => by simpa [RelL] using h, fun h => by simpa [RelA] using h⟩
      | cons t ts =>
        simp only [scalarT.scalarTs, Bool.and_eq_true] at hs
        have h2 := ih.2 ts w w' W W'
        refine ⟨fun h => ?_, fun h => ?_⟩
        · simp only [RelL] at h ⊢
          obtain ⟨v, vs', rfl, h1, hr, hrs⟩ := h
          exact ⟨v, vs', rfl, h1, ih.1 t w w' W W' v (by simp at hn ⊢; omega) hs.1 hr, (h2 _ (by simp at hn ⊢; omega) hs.2).1 hrs⟩
        · simp only [RelA] at h ⊢
          obtain ⟨v, vs', rfl, hr, hrs⟩ := h
          exact ⟨v, vs', rfl, ih.1 t w w' W W' v (by simp at hn ⊢; omega) hs.1 hr, (h2 _ (by simp at hn ⊢; omega) hs.2).2 hrs⟩

/-- The function may be entered as a value, too. -/
def Entry (P : Program) (f : FuncId) : Prop := ∃ fn, P.funcs[f]? = some fn ∧ fn.name ≠ "runtime.NumGoroutine" ∧ fn.body.isNone = false

/-- A call on these trees returns that tree. -/
structure CallsOk (P : Program) (f : FuncId) (ts : List T) (t : T) : Prop where
  entry : Entry P f
  run : ∀ (W : Nat → Prop) (w : World) (vals : Array Value), (∀ b, W b → b < w.heap.size) → GOk w W → RelA w W ts vals.toList →
    Calls P f vals w fun e w' => ∃ v, e = .returned v ∧ BelD w.heap.size w w' ∧ RelT w' W t v

/-- What is laid is new, and holds these rows. -/
structure FreshArr (n0 : Nat) (w' : World) (W : Nat → Prop) (e sz : Nat) (rows : List (List T)) (v : Value) : Prop where
  pos : 0 < sz
  len : ∀ x ∈ rows, x.length = sz
  it : (rows = [] ∧ ∃ a : Option Addr, v = .slice a 0 0) ∨ ∃ g cap cur, v = .slice (some ⟨g, 0, none⟩) rows.length cap ∧ 0 < cap ∧ n0 ≤ g ∧ w'.heap[g]? = some (.cells cur e (0, 0)) ∧ rows.length ≤ cap ∧ cap ≤ maxLen ∧ cur.size = cap * sz ∧ RelL w' (fun b => W b ∨ b = g) rows.flatten (cur.toList.take (rows.length * sz))
/-- A call on these trees returns a slice over new memory. -/
structure CallsF (P : Program) (f : FuncId) (ts : List T) (e sz : Nat) (rows : List (List T)) : Prop where
  entry : Entry P f
  run : ∀ (W : Nat → Prop) (w : World) (vals : Array Value), (∀ b, W b → b < w.heap.size) → GOk w W → RelA w W ts vals.toList →
    Calls P f vals w fun e' w' => ∃ v, e' = .returned v ∧ BelD w.heap.size w w' ∧ FreshArr w.heap.size w' W e sz rows v

/-- Arguments, each as its slot says. -/
def RelDA (w : World) (W : Nat → Prop) (objs : Obs) (L : Loc) (ds : List DV) (vs : List Value) : Prop :=
  vs.length = ds.length ∧ ∀ (i : Nat) (d : DV) (v : Value), ds[i]? = some d → vs[i]? = some v → RelD w W objs L d v

/-- A call that may write the objects. -/
structure CallsS (P : Program) (f : FuncId) (args : List DV) (objs : Obs) (r : SRes) : Prop where
  entry : Entry P f
  run : ∀ (base : Nat) (W M : Nat → Prop) (w0 w : World) (L : Loc) (vals : Array Value), RelO base W M w0 objs w L → RelDA w W objs L args vals.toList →
    Calls P f vals w fun e w' => ∃ v L', e = .returned v ∧ RelO base W M w0 r.objs w' L' ∧ Adv W objs L w r.objs L' w' ∧ RelD w' W r.objs L' r.val v

/-- The contracts hold. -/
structure SpecOk (P : Program) (f : FuncId) (s : Spec) : Prop where
  pure : ∀ ts, s.pre ts → CallsOk P f ts (s.fn ts) ∧ (s.scalar = true → scalarT (s.fn ts) = true)
  fresh : ∀ e sz, s.fresh = some (e, sz) → ∀ ts, s.pre ts → ∃ rows, s.fn ts = .sl rows ∧ CallsF P f ts e sz rows ∧ (s.lend = true → scalarT.scalarTs rows.flatten = true)
  st : ∀ k, s.st = some k → ∀ args objs, (k args objs).ok → (∀ N, (∀ r, N ≤ r → objs r = none) → CallsS P f args objs (k args objs)) ∧ ∀ r, objs r = none → (k args objs).objs r = none
def EnvOk (P : Program) (Γ : Env) : Prop := ∀ f s, Γ f = some s → SpecOk P f s

/-- The fence that lets everything in, in a round or not. -/
def wideR (ro : Option Nat) : Fence := { Fence.wide with round := ro }

theorem callsIn_wideR {ro : Option Nat} {n : Nat} {P : Program} {f : FuncId} {args : Array Value} {w : World} {R : Ending → World → Prop} (h : Calls P f args w R) : CallsIn (wideR ro) n P f args w R := by
  have h0 : CallsIn Fence.wide n P f args w R := callsIn_wide.2 h
  exact h0

/-- What is fixed through a run: what the callers may still write; how the run began; the frame; of an iterator, what holds between two rounds. -/
structure Ctx where
  W : Nat → Prop
  go : Obs
  gL : Loc
  gw : World
  base : Nat
  M : Nat → Prop
  w0 : World
  J : Option ((Nat → Prop) → List (List T) → World → Prop)
  ro : Option Nat     -- in the round of that loop

def Ctx.At (κ : Ctx) (todo : List (List T)) (W : Nat → Prop) (base : Nat) (M : Nat → Prop) (w0 : World) : Prop :=
  match κ.J with
  | none => todo = [] ∧ W = κ.W ∧ base = κ.base ∧ M = κ.M ∧ w0 = κ.w0
  | some J => J W todo w0 ∧ base = w0.heap.size ∧ M = (fun _ => False) ∧ (∀ b, W b → κ.W b ∨ κ.gw.heap.size ≤ b) ∧ ∀ b, κ.W b → W b

/-- An iterator's caller keeps its word. -/
structure Yields (P : Program) (l : Nat) (J : (Nat → Prop) → List (List T) → World → Prop) : Prop where
  stays : ∀ (W : Nat → Prop) (todo : List (List T)) (A B : World), J W todo A → BelD A.heap.size A B → J W todo B
  round : ∀ (W : Nat → Prop) (x : List T) (rest : List (List T)) (vals : Array Value) (A : World), J W (x :: rest) A → RelA A W x vals.toList →
    ∃ fn tmps assign body, (Instr.yield l vals).run P A = .ok (.round l fn tmps assign body) A ∧ RoundIn Fence.wide 0 P l fn tmps assign body A fun e B =>
      e = .returned (.bool true) ∧ ∃ W', J W' rest B ∧ Keeps W A B ∧ (∀ b, W' b → b < B.heap.size ∧ (W b ∨ A.heap.size ≤ b)) ∧ ∀ b, W b → W' b
structure Ctx.Good (P : Program) (κ : Ctx) : Prop where
  y : ∀ J, κ.J = some J → Yields P κ.gL.yl J
  rd : ∀ l, κ.ro = some l → ∃ r, κ.gw.heap[l]? = some (.loop r)

def mark (D : Nat) : Deferred := { target := .collected D, args := #[] }

structure R0 (base : Nat) (W M : Nat → Prop) (w0 : World) (nt : Nat) (tmps : Nat → DV) (objs : Obs) (a : Act) (w : World) (L : Loc) : Prop where
  size : a.tmps.size = nt
  tmps : ∀ t, RelD w W objs L (tmps t) (a.tmps.getD t Go.undef)
  o : RelO base W M w0 objs w L

/-- The state describes the frame and the world. -/
structure RelR (κ : Ctx) (nt : Nat) (st : RS) (a : Act) (w : World) (L : Loc) : Prop where
  ex : ∃ W base M w0, κ.At st.todo W base M w0 ∧ R0 base W M w0 nt st.tmps st.objs a w L
  adv : Adv κ.W κ.go κ.gL κ.gw st.objs L w
  defers : ∃ Ds : List Nat, a.defers = Ds.map mark ∧ Ds.Nodup ∧ (∀ D ∈ Ds, w.heap[D]? = some (.deferred (some [])) ∧ κ.gw.heap.size ≤ D) ∧ (κ.J.isSome = true → Ds = [])
  bg : κ.J = none → κ.base ≤ κ.gw.heap.size
  fin : ∃ N, ∀ r, N ≤ r → st.objs r = none

theorem Ctx.At.sub {κ : Ctx} {todo : List (List T)} {W : Nat → Prop} {base : Nat} {M : Nat → Prop} {w0 : World} (h : κ.At todo W base M w0) : (∀ b, W b → κ.W b ∨ κ.gw.heap.size ≤ b) ∧ ∀ b, κ.W b → W b := by
  unfold Ctx.At at h
  split at h
  · obtain ⟨_, rfl, _⟩ := h; exact ⟨fun _ h => .inl h, fun _ h => h⟩
  · exact ⟨h.2.2.2.1, h.2.2.2.2⟩

theorem Adv.comp {W V : Nat → Prop} {go objs objs' : Obs} {gL L L' : Loc} {gw w w' : World} (h : Adv V go gL gw objs L w) (k : Adv W objs L w objs' L' w') (h1 : ∀ b, W b → V b ∨ gw.heap.size ≤ b) (h2 : ∀ b, V b → W b) :
    Adv V go gL gw objs' L' w' := by
  have up : ∀ b, b < gw.heap.size → WW W objs L b → WW V objs L b := fun b hb hw => by
    rcases hw with hw | hw
    · rcases h1 b hw with h3 | h3
      · exact .inl h3
      · omega
    · exact .inr hw
  refine ⟨⟨⟨Nat.le_trans h.keeps.size k.keeps.size, fun b c e fr hb hn => ?_⟩, fun b hb => k.keeps.dfr b (h.keeps.dfr b hb), fun b r hb => k.keeps.lps b r (h.keeps.lps b r hb)⟩, fun b hb hw => ?_, fun r o hr hk => ?_, fun r ver e sz rows hr => ?_, k.yl.trans h.yl⟩
  · have hlt := (Array.getElem?_eq_some_iff.1 hb).1
    exact k.keeps.blk b c e fr (h.keeps.blk b c e fr hb hn) fun x => hn (h.sub b hlt (up b hlt x))
  · refine h.sub b hb (up b hb (k.sub b (Nat.lt_of_lt_of_le hb h.keeps.size) ?_))
    rcases hw with hw | hw
    · exact .inl (h2 b hw)
    · exact .inr hw
  · obtain ⟨e1, o1, hr1, hk1⟩ := h.fix r o hr hk
    obtain ⟨e2, o2, hr2, hk2⟩ := k.fix r o1 hr1 (by rw [hk1]; exact hk)
    exact ⟨e2.trans e1, o2, hr2, hk2.trans hk1⟩
  · obtain ⟨v1, e1, s1, r1, hr1, l1, k1⟩ := h.arr r ver e sz rows hr
    obtain ⟨v2, e2, s2, r2, hr2, l2, k2⟩ := k.arr r v1 e1 s1 r1 hr1
    refine ⟨v2, e2, s2, r2, hr2, Nat.le_trans l1 l2, fun hv => ?_⟩
    have hv1 : v1 = ver := by omega
    obtain ⟨a1, a2, a3⟩ := k1 hv1
    obtain ⟨b1, b2, b3⟩ := k2 (by omega)
    exact ⟨b1.trans a1, b2.trans a2, b3.trans a3⟩

section
variable {P : Program} {κ : Ctx} {base : Nat} {W M : Nat → Prop} {w0 : World} {nt : Nat} {Γ : Env} {nxt : Nat}

theorem getD_put (tmps : Array Value) (d t : Nat) (v : Value) (hd : d < tmps.size) : (tmps.setIfInBounds d v).getD t Go.undef = if t = d then v else tmps.getD t Go.undef := by
  simp only [Array.getD_eq_getD_getElem?, Array.getElem?_setIfInBounds]
  by_cases h : d = t
  · subst h; simp [hd]
  · have : t ≠ d := fun e => h e.symm
    simp [h, this]

/-- A step's value is put into its slot. -/
theorem R0.put {tmps : Nat → DV} {objs : Obs} {a : Act} {w w' : World} {L L' : Loc} {objs' : Obs} (h : R0 base W M w0 nt tmps objs a w L) (dst : Option Nat) (hdst : ∀ d, dst = some d → d < nt) {v : DV} {x : Value}
    (hO : RelO base W M w0 objs' w' L') (hA : Adv W objs L w objs' L' w') (hv : RelD w' W objs' L' v x) :
    R0 base W M w0 nt (updT tmps dst v) objs' (a.put dst x) w' L' := by
  cases dst with
  | none => exact ⟨h.size, fun t => RelD.adv hA _ _ (h.tmps t), hO⟩
  | some d =>
    refine ⟨by simpa [Act.put] using h.size, fun t => ?_, hO⟩
    simp only [updT, Act.put]
    rw [getD_put _ _ _ _ (by rw [h.size]; exact hdst d rfl)]
    by_cases ht : t = d
    · simp only [ht, if_true]; exact hv
    · simp only [ht, if_false]; exact RelD.adv hA _ _ (h.tmps t)

theorem put_defers (a : Act) (dst : Option Nat) (x : Value) : (a.put dst x).defers = a.defers := by cases dst <;> rfl

theorem RelR.put {st : RS} {a : Act} {w w' : World} {L L' : Loc} {objs' : Obs} (hR : RelR κ nt st a w L) (hat : κ.At st.todo W base M w0) (h : R0 base W M w0 nt st.tmps st.objs a w L)
    (dst : Option Nat) (hdst : ∀ d, dst = some d → d < nt) {v : DV} {x : Value} (hO : RelO base W M w0 objs' w' L') (hA : Adv W st.objs L w objs' L' w') (hv : RelD w' W objs' L' v x) (hfin : ∃ N, ∀ r, N ≤ r → objs' r = none) :
    RelR κ nt ⟨updT st.tmps dst v, objs', st.todo⟩ (a.put dst x) w' L' :=
  ⟨⟨W, base, M, w0, hat, h.put dst hdst hO hA hv⟩, hR.adv.comp hA hat.sub.1 hat.sub.2, by
    obtain ⟨Ds, h1, h2, h3, h4⟩ := hR.defers
    exact ⟨Ds, by rw [put_defers]; exact h1, h2, fun D hD => ⟨hA.keeps.dfr D (h3 D hD).1, (h3 D hD).2⟩, h4⟩, hR.bg, hfin⟩

theorem RelR.skip {st : RS} {a : Act} {w : World} {L : Loc} (h : RelR κ nt st a w L) (dst : Option Nat) (hdst : ∀ d, dst = some d → d < nt) :
    RelR κ nt ⟨updT st.tmps dst .skip, st.objs, st.todo⟩ (a.put dst Go.undef) w L := by
  obtain ⟨W, base, M, w0, hat, h0⟩ := h.ex
  exact RelR.put h hat h0 dst hdst h0.o (Adv.refl_of_keeps (Keeps.refl _ _)) (by simp [RelD]) h.fin

theorem about_wide {ro : Option Nat} (o : Oper) (w : World) (ρ : Operand → Value) : ∀ f, o.about P w ρ = some f → (wideR ro).fn f := fun _ _ => trivial

theorem compile_nodefer {o : Oper} {d : DOp} (h : compileOp P o = some d) : ∀ c, o.op ≠ .defer c := by
  intro c hc
  simp [compileOp, hc] at h

theorem compile_call {o : Oper} {d : DOp} (hc : compileOp P o = some d) (hd' : (∃ f args, d = .call f args) ∨ (∃ f args, d = .callS f args) ∨ (∃ f args, d = .callv f args) ∨ (∃ f args, d = .callF f args) ∨ ∃ f args, d = .callR f args) : ∃ c, o.op = .call c ∧ compileCall P c = some d := by
  rcases hd' with ⟨f, args, rfl⟩ | ⟨f, args, rfl⟩ | ⟨f, args, rfl⟩ | ⟨f, args, rfl⟩ | ⟨f, args, rfl⟩
  all_goals
    unfold compileOp at hc
    cases ho : o.op <;> simp only [ho, reduceCtorEq] at hc
    case call c => exact ⟨c, rfl, hc⟩
    case binOp op t x y yt =>
      exfalso
      simp only [Option.bind_eq_bind, Option.bind_eq_some_iff] at hc
      obtain ⟨x', hx, y', hy, hc⟩ := hc
      unfold compileBin at hc
      repeat' split at hc
      all_goals first | (cases hc; done) | (simp only [Option.map_eq_some_iff, reduceCtorEq, and_false, exists_false] at hc; done)
    case makeMap t h =>
      exfalso
      cases h with
      | some m => cases hc
      | none =>
        simp only at hc
        split at hc
        · simp only [Option.map_eq_some_iff, reduceCtorEq, and_false, exists_false] at hc
        · cases hc
    case slice t x lo hi mx =>
      exfalso
      cases mx with
      | some m => cases hc
      | none =>
        simp only at hc
        repeat' split at hc
        all_goals simp only [Option.map_eq_some_iff, Option.pure_def, Option.bind_eq_bind, Option.bind_eq_some_iff, Option.some.injEq, reduceCtorEq, and_false, exists_false] at hc
    all_goals exfalso
    all_goals first
      | (simp only [Option.map_eq_some_iff, reduceCtorEq, and_false, exists_false] at hc; done)
      | (simp only [Option.pure_def, Option.bind_eq_bind, Option.bind_eq_some_iff, Option.some.injEq, reduceCtorEq, and_false, exists_false] at hc; done)
      | (repeat' split at hc) <;> first
          | (simp only [Option.map_eq_some_iff, Option.pure_def, Option.bind_eq_bind, Option.bind_eq_some_iff, Option.some.injEq, reduceCtorEq, and_false, exists_false] at hc; done)
          | (simp [Option.bind_eq_some_iff] at hc; done)

theorem callee_call {c : Call} {f : FuncId} {args : List Opd} (h : compileCall P c = some (.call f args)) : ∃ fn, c.callee = .value (.func f) ∧ P.funcs[f]? = some fn ∧ fn.name ≠ "runtime.NumGoroutine" ∧ fn.body.isNone = false ∧ c.args.toList.mapM Opd.of = some args := by
  unfold compileCall at h
  split at h
  · rename_i g hcal
    split at h
    · rename_i fn hfn
      split at h
      · cases h
      · rename_i hnr
        simp only [Option.map_eq_some_iff, DOp.call.injEq] at h
        obtain ⟨ys, hys, rfl, rfl⟩ := h
        refine ⟨fn, hcal, hfn, fun e => hnr (.inl e), ?_, hys⟩
        cases hb : fn.body.isNone
        · rfl
        · exact absurd (.inr hb) hnr
    · cases h
  all_goals
    repeat' split at h
    all_goals first
      | (simp only [Option.map_eq_some_iff, Option.pure_def, Option.bind_eq_bind, Option.bind_eq_some_iff, Option.some.injEq, reduceCtorEq, and_false, exists_false] at h; done)
      | skip
theorem callee_callv {c : Call} {x : Opd} {args : List Opd} (h : compileCall P c = some (.callv x args)) : ∃ t, c.callee = .value (.tmp t) ∧ x = .tmp t ∧ c.args.toList.mapM Opd.of = some args := by
  unfold compileCall at h
  split at h
  · split at h
    · split at h
      · cases h
      · simp at h
    · cases h
  · rename_i t hcal
    simp only [Option.map_eq_some_iff, DOp.callv.injEq] at h
    obtain ⟨ys, hys, rfl, rfl⟩ := h
    exact ⟨t, hcal, rfl, hys⟩
  all_goals
    repeat' split at h
    all_goals first
      | (simp only [Option.map_eq_some_iff, Option.pure_def, Option.bind_eq_bind, Option.bind_eq_some_iff, Option.some.injEq, reduceCtorEq, and_false, exists_false] at h; done)
      | skip

/-- A call that may write bears its own name; in the code it is a call as any. -/
def bareD : DOp → DOp
  | .callS f args => .call f args
  | .callF f args => .call f args
  | .callR f args => .call f args
  | .mkSliceB e sz bytes zero n => .mkSlice e sz bytes zero n
  | d => d

theorem relDA_relA (W' : Nat → Prop) {lend : Bool} {objs : Obs} {w : World} {L : Loc} (hO : RelO base W M w0 objs w L) (hW : lend = true → ∀ r o b, objs r = some o → L.own r o = some b → ¬ W' b) (hW2 : ∀ b, W' b → WW W objs L b) :
    ∀ {ds : List DV} {vs : List Value}, RelDA w W objs L ds vs → tOks lend objs ds → RelA w W' (tOfs objs ds) vs
  | [], vs, h, _ => by
    have : vs = [] := List.eq_nil_of_length_eq_zero h.1
    subst this
    simp [RelA, tOfs]
  | d :: ds, [], h, _ => by have := h.1; simp at this
  | d :: ds, v :: vs, h, hk => by
    simp only [tOks] at hk
    simp only [RelA, tOfs]
    exact ⟨v, vs, rfl, (tOf_relT W' hO hW hW2).1 _ _ (h.2 0 d v rfl rfl) hk.1, relDA_relA W' hO hW hW2 ⟨by simpa using h.1, fun i x y hx hy => h.2 (i + 1) x y (by simpa using hx) (by simpa using hy)⟩ hk.2⟩

theorem pure_call (hΓ : EnvOk P Γ) {objs : Obs} {w : World} {L : Loc} (hO : RelO base W M w0 objs w L) {g : FuncId} {s : Spec} (hg : Γ g = some s) {ds : List DV} {vals : Array Value} (hlend : tOks s.scalar objs ds) (hpre : s.pre (tOfs objs ds))
    (hr : RelDA w W objs L ds vals.toList) : Calls P g vals w fun e w' => ∃ v, e = .returned v ∧ RelO base W M w0 objs w' L ∧ Adv W objs L w objs L w' ∧ RelD w' W objs L (.v (s.fn (tOfs objs ds))) v := by
  obtain ⟨hcalls, hsc⟩ := (hΓ g s hg).pure _ hpre
  have hww : ∀ b, WW W objs L b → b < w.heap.size := by
    have hle : base ≤ w.heap.size := Nat.le_trans hO.fr.size0 hO.fr.size
    rintro b (hb | ⟨r', o', h1, h2⟩)
    · have := hO.under b hb; omega
    · exact (hO.ob r' o' h1).lt h2
  cases hs : s.scalar with
  | true =>
    rw [hs] at hlend
    have hra := relDA_relA (fun _ => False) (lend := true) hO (fun _ _ _ _ _ _ x => x) (fun _ x => x.elim) hr hlend
    refine (hcalls.run (fun _ => False) w vals (fun _ x => x.elim) (hO.gl.keep (Keeps.refl (WW W objs L) _).toKeepsC fun _ _ h => h.elim) hra).mono ?_
    rintro e w' ⟨v, rfl, hb, hv⟩
    obtain ⟨hO', hA⟩ := RelO.grow hO hb
    refine ⟨v, rfl, hO', hA, ?_⟩
    simp only [RelD]
    exact (scalar_rel _).1 _ w' w' (fun _ => False) (WW W objs L) v (Nat.lt_succ_self _) (hsc hs) hv
  | false =>
    rw [hs] at hlend
    have hra := relDA_relA (WW W objs L) (lend := false) hO (fun x => by cases x) (fun _ x => x) hr hlend
    refine (hcalls.run (WW W objs L) w vals hww hO.gl hra).mono ?_
    rintro e w' ⟨v, rfl, hb, hv⟩
    obtain ⟨hO', hA⟩ := RelO.grow hO hb
    exact ⟨v, rfl, hO', hA, by simp only [RelD]; exact hv⟩

theorem fresh_call {objs : Obs} {w : World} {L : Loc} (hO : RelO base W M w0 objs w L) {g : FuncId} {ds : List DV} {vals : Array Value} {lend : Bool} (hlend : tOks lend objs ds) {e sz : Nat} {rows : List (List T)} (hcalls : CallsF P g (tOfs objs ds) e sz rows) (hsc : lend = true → scalarT.scalarTs rows.flatten = true)
    (hr : RelDA w W objs L ds vals.toList) {name : Nat} (hname : objs name = none) : Calls P g vals w fun e' w' => ∃ v L', e' = .returned v ∧ RelO base W M w0 (putO objs (some (name, .arr 0 e sz rows))) w' L' ∧ Adv W objs L w (putO objs (some (name, .arr 0 e sz rows))) L' w' ∧ RelD w' W (putO objs (some (name, .arr 0 e sz rows))) L' (.aref name 0) v := by
  have hle : base ≤ w.heap.size := Nat.le_trans hO.fr.size0 hO.fr.size
  have hww : ∀ b, WW W objs L b → b < w.heap.size := by
    rintro b (hb | ⟨r', o', h1, h2⟩)
    · have := hO.under b hb; omega
    · exact (hO.ob r' o' h1).lt h2
  have hcl : Calls P g vals w fun e' w' => ∃ v, e' = .returned v ∧ BelD w.heap.size w w' ∧ FreshArr w.heap.size w' (WW W objs L) e sz rows v := by
    cases lend with
    | false =>
      have hra := relDA_relA (WW W objs L) (lend := false) hO (fun x => by cases x) (fun _ x => x) hr hlend
      exact hcalls.run (WW W objs L) w vals hww hO.gl hra
    | true =>
      have hra := relDA_relA (fun _ => False) (lend := true) hO (fun _ _ _ _ _ _ x => x) (fun _ x => x.elim) hr hlend
      refine (hcalls.run (fun _ => False) w vals (fun _ x => x.elim) (hO.gl.keep (Keeps.refl (WW W objs L) _).toKeepsC fun _ _ h => h.elim) hra).mono ?_
      rintro e' w' ⟨v, h1, h2, h3⟩
      refine ⟨v, h1, h2, h3.pos, h3.len, ?_⟩
      rcases h3.it with h4 | ⟨g', cap, cur, k1, k2, k3, k4, k5, k6, k7, k8⟩
      · exact .inl h4
      · exact .inr ⟨g', cap, cur, k1, k2, k3, k4, k5, k6, k7, ((scalar_rel _).2 _ w' w' _ _ _ (Nat.lt_succ_self _) (hsc rfl)).1 k8⟩
  refine hcl.mono ?_
  rintro e' w' ⟨v, rfl, hb, hf⟩
  have h := RelO.put hO (r := name) (L' := L.setSl name v) (o' := .arr 0 e sz rows) (hO.fr.trans ⟨hb.os, hb.tape, hb.output, hle, hb.size, fun k hk _ => hb.block k (by omega), hb.drawn⟩) hb.size (fun x hx => ⟨rfl, by simp [Loc.setSl, hx]⟩) rfl (fun b hlt _ => hb.block b hlt)
    (fun b h => .inr (by
      simp only [Loc.own, Loc.setSl, if_true] at h
      rcases hf.it with ⟨_, a, rfl⟩ | ⟨g', cap, cur, rfl, hp, hge, _⟩
      · cases a <;> simp [capBlock] at h
      · simp only [capBlock, if_neg (Nat.pos_iff_ne_zero.1 hp), Option.some.injEq] at h; omega))
    (fun o' h _ => by rw [hname] at h; cases h) (fun _ _ _ _ h => by rw [hname] at h; cases h) (fun adv => by
      refine ⟨hf.pos, hf.len, fun g' hg => ?_, ?_⟩
      · simp only [Loc.setSl, if_true] at hg
        rcases hf.it with ⟨_, a, rfl⟩ | ⟨g2, cap, cur, rfl, hp, hge, _⟩
        · cases a <;> simp [capBlock] at hg
        · simp only [capBlock, if_neg (Nat.pos_iff_ne_zero.1 hp), Option.some.injEq] at hg; exact .inl (by omega)
      · simp only [Loc.setSl, if_true]
        rcases hf.it with ⟨h1, a, h2⟩ | ⟨g2, cap, cur, h1, hp, hge, h2, h3, h4, h5, h6⟩
        · exact .inl ⟨h1, a, h2⟩
        · refine .inr ⟨g2, cap, cur, h1, hp, h2, h3, h4, h5, RelL.keep (Keeps.refl (fun b => WW W objs L b ∨ b = g2) w').toKeepsC (fun b _ hb => ?_) _ _ h6⟩
          rcases hb with hb | ⟨r', o', hr', hb⟩
          · exact .inl (.inl hb)
          · simp only [putO] at hr'
            split at hr'
            · rename_i e1
              cases hr'
              subst e1
              simp only [Loc.own, Loc.setSl, if_true, h1, capBlock, if_neg (Nat.pos_iff_ne_zero.1 hp), Option.some.injEq] at hb
              exact .inr hb.symm
            · rename_i hne
              refine .inl (.inr ⟨r', o', hr', ?_⟩)
              cases o' <;> simpa [Loc.own, Loc.setSl, hne] using hb)
  refine ⟨v, _, rfl, h.1, h.2, ?_⟩
  simp only [RelD]
  refine ⟨?_, 0, e, sz, rows, by simp [putO], Nat.le_refl _, fun _ => by simp [Loc.setSl]⟩
  rcases hf.it with ⟨_, a, rfl⟩ | ⟨g2, cap, cur, rfl, _⟩ <;> exact ⟨_, _, _, rfl⟩

theorem opds_relDA {objs : Obs} {w : World} {L : Loc} {a : Act} {ρ : Nat → DV} (hg : GOk w (WW W objs L)) (hρ : ∀ t, RelD w W objs L (ρ t) (a.tmps.getD t Go.undef)) {xs : List Operand} {ys : List Opd} (h : xs.mapM Opd.of = some ys) : RelDA w W objs L (ys.map (·.ev ρ)) (xs.map a.eval) := by
  refine ⟨by simp [mapM_of_length h], fun i d v hd hv => ?_⟩
  rw [List.getElem?_map, Option.map_eq_some_iff] at hd hv
  obtain ⟨y, hy, rfl⟩ := hd
  obtain ⟨x, hx, rfl⟩ := hv
  exact mapM_of_rel hg hρ h i x y hx hy
theorem RelDA.append {objs : Obs} {w : World} {L : Loc} {ds ds' : List DV} {vs vs' : List Value} (h : RelDA w W objs L ds vs) (k : RelDA w W objs L ds' vs') : RelDA w W objs L (ds ++ ds') (vs ++ vs') := by
  refine ⟨by simp [h.1, k.1], fun i d v hd hv => ?_⟩
  by_cases hi : i < ds.length
  · rw [List.getElem?_append_left hi] at hd
    rw [List.getElem?_append_left (by rw [h.1]; exact hi)] at hv
    exact h.2 i d v hd hv
  · rw [List.getElem?_append_right (by omega)] at hd
    rw [List.getElem?_append_right (by rw [h.1]; omega), h.1] at hv
    exact k.2 _ d v hd hv
theorem relDA_caps {objs : Obs} {w : World} {L : Loc} {ts : List T} {vs : List Value} (h : RelL w (WW W objs L) ts vs) : RelDA w W objs L (ts.map .v) vs := by
  refine ⟨by simp [RelL.length h], fun i d v hd hv => ?_⟩
  rw [List.getElem?_map, Option.map_eq_some_iff] at hd
  obtain ⟨t, ht, rfl⟩ := hd
  obtain ⟨v', hv', _, hr⟩ := RelL.get h ht
  rw [hv] at hv'
  cases hv'
  simpa [RelD] using hr

theorem relDA_dcaps {objs : Obs} {w : World} {L : Loc} {ds : List DV} {vs : List Value} (h : RelDs w W objs L ds vs) : RelDA w W objs L ds vs := by
  refine ⟨by simp [RelDs.length h], fun i d v hd hv => ?_⟩
  obtain ⟨v', hv', _, hr⟩ := RelDs.get h hd
  rw [hv] at hv'
  cases hv'
  exact hr

theorem compile_entry {o : Oper} {x : Opd} (hc : compileOp P o = some (.entryM x)) : ∃ y, o.op = .entry y ∧ Opd.of y = some x := by
  unfold compileOp at hc
  cases ho : o.op <;> simp only [ho, reduceCtorEq] at hc
  case entry y =>
    simp only [Option.map_eq_some_iff, DOp.entryM.injEq] at hc
    obtain ⟨y', hy, rfl⟩ := hc
    exact ⟨y, rfl, hy⟩
  case binOp op t x y yt =>
    exfalso
    simp only [Option.bind_eq_bind, Option.bind_eq_some_iff] at hc
    obtain ⟨x', hx, y', hy, hc⟩ := hc
    unfold compileBin at hc
    repeat' split at hc
    all_goals first | (cases hc; done) | (simp only [Option.map_eq_some_iff, reduceCtorEq, and_false, exists_false] at hc; done)
  case call c =>
    exfalso
    unfold compileCall at hc
    repeat' split at hc
    all_goals first
      | (cases hc; done)
      | (simp only [Option.map_eq_some_iff, Option.pure_def, Option.bind_eq_bind, Option.bind_eq_some_iff, Option.some.injEq, reduceCtorEq, and_false, exists_false] at hc; done)
  case slice t x lo hi mx =>
    exfalso
    cases mx with
    | some m => cases hc
    | none =>
      simp only at hc
      repeat' split at hc
      all_goals simp only [Option.map_eq_some_iff, Option.pure_def, Option.bind_eq_bind, Option.bind_eq_some_iff, Option.some.injEq, reduceCtorEq, and_false, exists_false] at hc
  case makeMap t h =>
    exfalso
    cases h with
    | some m => cases hc
    | none =>
      simp only at hc
      split at hc
      · simp only [Option.map_eq_some_iff, reduceCtorEq, and_false, exists_false] at hc
      · cases hc
  all_goals exfalso
  all_goals first
    | (simp only [Option.map_eq_some_iff, reduceCtorEq, and_false, exists_false] at hc; done)
    | (simp only [Option.pure_def, Option.bind_eq_bind, Option.bind_eq_some_iff, Option.some.injEq, reduceCtorEq, and_false, exists_false] at hc; done)
    | (repeat' split at hc) <;> first
        | (simp only [Option.map_eq_some_iff, Option.pure_def, Option.bind_eq_bind, Option.bind_eq_some_iff, Option.some.injEq, reduceCtorEq, and_false, exists_false] at hc; done)
        | (simp [Option.bind_eq_some_iff] at hc; done)

theorem eval_args {o : Oper} {a : Act} {w : World} {c : Call} (ho : o.op = .call c) {g : FuncId} {caps : Array Value} (hv : ∀ f, c.callee = .value f → a.eval f = .func (.func g) #[] caps) (hc : ∃ f, c.callee = .value f) (hg : Entry P g) :
    (execOp a.eval o).run P w = .ok (.enter g (c.args.map a.eval ++ caps)) w := by
  obtain ⟨f, hf⟩ := hc
  obtain ⟨fn, hfn, hne, hbo⟩ := hg
  simp [execOp, ho, resolve, hf, hv f hf, Deferred.ofValue, invoke, callFunc, hfn, hne]
  intro hnone
  simp [hnone] at hbo

theorem roundIn_wideR {ro : Option Nat} {n l : Nat} {fn : FuncId} {tmps : Array Value} {assign body : Code} {w : World} {R : Ending → World → Prop} (h : RoundIn Fence.wide 0 P l fn tmps assign body w R) :
    RoundIn (wideR ro) n P l fn tmps assign body w R := by
  have h0 : RoundIn Fence.wide n P l fn tmps assign body w R := ⟨h.1, fun c cs _ => h.2 c cs (by simp [Fence.room, Fence.wide])⟩
  exact h0

/-- What one operation does, in the model. -/
theorem op_wpIn {ro : Option Nat} {n : Nat} (hΓ : EnvOk P Γ) (hκ : κ.Good P) {o : Oper} {r : RO} (hc : compileOp P o = some (bareD r.d)) (hdst : r.dst = o.dst) {st : RS} {a : Act} {w : World} {L : Loc} (h : RelR κ nt st a w L) (hd : ∀ d, r.dst = some d → d < nt)
    (hname : st.objs (nameOf nxt r.dst) = none) (hok : (post Γ nxt r st).ok) {K : Act → World → Prop} {Q : Exit → Act → World → Prop}
    (hK : ∀ a' w' L', RelR κ nt ⟨updT st.tmps r.dst (post Γ nxt r st).val, (post Γ nxt r st).objs, (post Γ nxt r st).todo⟩ a' w' L' → K a' w') :
    o.wpIn (wideR ro) n P a w K Q := by
  have hR := h
  obtain ⟨⟨W, base, M, w0, hat, h0⟩, hadv, hdf, hbg, hfin⟩ := h
  refine ⟨about_wide o w _, ?_⟩
  have hnd : ∀ c, o.op ≠ .defer c := compile_nodefer hc
  rw [show (wideR ro).round = ro from rfl, Oper.semAt_eq ro _ o hnd]
  by_cases h4 : is4 r.d = true
  · unfold post at hok hK
    rw [if_pos h4] at hok hK
    cases hrd : r.d <;> rw [hrd] at h4 <;> first | (simp [is4] at h4; done) | skip
    case callS f args =>
      rw [hrd] at hc hok hK
      obtain ⟨c, ho, hcc⟩ := compile_call hc (.inl ⟨f, args, rfl⟩)
      obtain ⟨fn, hcal, hfn, hne, hbo, hys⟩ := callee_call hcc
      have hrun := eval_args (P := P) (w := w) (a := a) (g := f) (caps := #[]) ho (fun x hx => by rw [hcal] at hx; cases hx; rfl) ⟨_, hcal⟩ ⟨fn, hfn, hne, hbo⟩
      rw [Array.append_empty] at hrun
      rw [hrun, Oper.uponIn_enter]
      refine ⟨fun hx => (by cases hx), callsIn_wideR ?_⟩
      simp only [semS] at hok hK
      cases hg : Γ f with
      | none => simp [hg] at hok
      | some s =>
        simp only [hg] at hok hK
        cases hk : s.st with
        | none => simp [hk] at hok
        | some k =>
          simp only [hk] at hok hK
          obtain ⟨hcl, hno⟩ := (hΓ f s hg).st k hk _ _ hok
          obtain ⟨N, hN⟩ := hfin
          have hcl := hcl N hN
          refine (hcl.run base W M w0 w L (c.args.map a.eval) h0.o (by simpa using opds_relDA h0.o.gl h0.tmps hys)).mono ?_
          rintro e w' ⟨v, L', rfl, hO, hA, hv⟩
          have := hK _ _ _ (RelR.put hR hat h0 r.dst hd hO hA hv ⟨N, fun r hr => hno r (hN r hr)⟩)
          rw [← hdst]
          exact this
    case callv x args =>
      rw [hrd] at hc hok hK
      obtain ⟨c, ho, hcc⟩ := compile_call hc (.inr (.inr (.inl ⟨_, _, rfl⟩)))
      obtain ⟨t, hcal, rfl, hys⟩ := callee_callv hcc
      have ht := h0.tmps t
      simp only [semS, show Opd.ev st.tmps (.tmp t) = st.tmps t from rfl] at hok hK
      cases hv : st.tmps t with
      | v tv =>
        rw [hv] at ht hok hK
        cases tv with
        | fn fv caps =>
          cases fv with
          | func g =>
            simp only at hok hK
            simp only [RelD, RelT] at ht
            obtain ⟨vs, hx, hcaps⟩ := ht
            cases hg : Γ g with
            | none => simp [hg] at hok
            | some s =>
              simp only [hg] at hok hK
              cases hk : s.st with
              | none =>
                simp only [hk] at hok hK
                unfold callSem at hok hK
                simp only [hg] at hok hK
                obtain ⟨hlend, hpre⟩ := hok
                have hrun := eval_args (P := P) (w := w) (a := a) (g := g) (caps := vs) ho (fun x hx' => by rw [hcal] at hx'; cases hx'; exact hx) ⟨_, hcal⟩ ((hΓ g s hg).pure _ hpre).1.entry
                rw [hrun, Oper.uponIn_enter]
                refine ⟨fun hx => (by cases hx), callsIn_wideR ?_⟩
                have hda : RelDA w W st.objs L (args.map (·.ev st.tmps) ++ caps.map .v) (c.args.map a.eval ++ vs).toList := by
                  simpa using RelDA.append (opds_relDA h0.o.gl h0.tmps hys) (relDA_caps hcaps)
                refine (pure_call hΓ h0.o hg hlend hpre hda).mono ?_
                rintro e w' ⟨v, rfl, hO, hA, hv'⟩
                have := hK _ _ _ (RelR.put hR hat h0 r.dst hd hO hA hv' hfin)
                rw [← hdst]
                exact this
              | some k =>
                simp only [hk] at hok hK
                obtain ⟨hcl, hno⟩ := (hΓ g s hg).st k hk _ _ hok
                obtain ⟨N, hN⟩ := hfin
                have hcl := hcl N hN
                have hrun := eval_args (P := P) (w := w) (a := a) (g := g) (caps := vs) ho (fun x hx' => by rw [hcal] at hx'; cases hx'; exact hx) ⟨_, hcal⟩ hcl.entry
                rw [hrun, Oper.uponIn_enter]
                refine ⟨fun hx => (by cases hx), callsIn_wideR ?_⟩
                have hda : RelDA w W st.objs L (args.map (·.ev st.tmps) ++ caps.map .v) (c.args.map a.eval ++ vs).toList := by
                  simpa using RelDA.append (opds_relDA h0.o.gl h0.tmps hys) (relDA_caps hcaps)
                refine (hcl.run base W M w0 w L _ h0.o hda).mono ?_
                rintro e w' ⟨v, L', rfl, hO, hA, hv'⟩
                have := hK _ _ _ (RelR.put hR hat h0 r.dst hd hO hA hv' ⟨N, fun r hr => hno r (hN r hr)⟩)
                rw [← hdst]
                exact this
          | _ => simp at hok
        | _ => simp at hok
      | yld =>
        rw [hv] at ht hok hK
        simp only [RelD] at ht
        cases htd : st.todo with
        | nil => simp [htd] at hok
        | cons y rest =>
          simp only [htd] at hok hK
          obtain ⟨hlend, harg, hobj⟩ := hok
          rw [htd] at hat
          unfold Ctx.At at hat
          cases hJ : κ.J with
          | none => simp [hJ] at hat
          | some J =>
            simp only [hJ] at hat
            obtain ⟨hj, rfl, rfl, hw1, hw2⟩ := hat
            have hy := hκ.y J hJ
            have hbw : BelD w0.heap.size w0 w := ⟨⟨h0.o.fr.os, h0.o.fr.tape, h0.o.fr.output, h0.o.fr.size, fun k hk => h0.o.fr.block k hk (fun x => x)⟩, h0.o.fr.drawn⟩
            have hjw := hy.stays W (y :: rest) w0 w hj hbw
            have hww : ∀ b, WW W st.objs L b → W b := by
              rintro b (hb | ⟨r', o', h1, _⟩)
              · exact hb
              · rw [hobj] at h1; cases h1
            have hra : RelA w W y (c.args.map a.eval).toList := by
              rw [← harg]
              have := relDA_relA W (lend := false) h0.o (fun x => by cases x) (fun b hb => .inl hb) (opds_relDA h0.o.gl h0.tmps hys) hlend
              simpa using this
            obtain ⟨fn, tmps, assign, body, hyr, hround⟩ := hy.round W y rest (c.args.map a.eval) w hjw hra
            have hrun : (execOp a.eval o).run P w = .ok (.round L.yl fn tmps assign body) w := by
              rw [← hadv.yl] at hyr
              have : a.eval (.tmp t) = .func (.yield L.yl) #[] #[] := ht
              simp [execOp, ho, resolve, hcal, this, Deferred.ofValue, invoke, hyr]
            rw [hrun, Oper.uponIn_round]
            refine ⟨fun hx => (by cases hx), roundIn_wideR ?_⟩
            rw [← hadv.yl] at hround
            refine hround.mono ?_
            rintro e B ⟨rfl, W', hj', hk', hb', hmono⟩
            have hlow : ∀ b, W b → b < w.heap.size := fun b hb => by
              have h1 := h0.o.under b hb
              have h2 := h0.o.fr.size
              omega
            have hA0 : Adv W st.objs L w st.objs L B := Adv.refl_of_keeps (hk'.mono fun b hb => .inl hb)
            obtain ⟨Ds, hDs, hDn, hDk, hDJ⟩ := hdf
            have hadv2 : Adv2 W W' st.objs L w st.objs L B := by
              refine ⟨hk'.mono fun b hb => .inl hb, fun b hb hw => ?_, fun r o hr _ => ⟨rfl, o, hr, rfl⟩, fun r ver e sz rows hr => ⟨ver, e, sz, rows, hr, Nat.le_refl _, fun _ => ⟨rfl, rfl, rfl⟩⟩, rfl⟩
              rcases hw with hw | ⟨r', o', h1, _⟩
              · rcases (hb' b hw).2 with h2 | h2
                · exact .inl h2
                · omega
              · rw [hobj] at h1; cases h1
            have move : ∀ (d : DV) (x : Value), RelD w W st.objs L d x → RelD B W' st.objs L d x := RelD.adv hadv2
            have hO' : RelO B.heap.size W' (fun _ => False) B st.objs B L := by
              refine ⟨Fr.refl (Nat.le_refl _), fun r o ho => ?_, fun r r' o o' b _ ho => ?_, fun r o b ho => ?_, fun b hb => (hb' b hb).1, h0.o.gl.keep hadv2.keeps.toKeepsC hadv2.sub⟩
              all_goals rw [hobj] at ho; cases ho
            have hR : RelR κ nt ⟨updT st.tmps r.dst (.v (.bool true)), st.objs, rest⟩ (a.put r.dst (.bool true)) B L := by
              refine ⟨⟨W', B.heap.size, fun _ => False, B, ?_, ?_⟩, hadv.comp hA0 hw1 hw2, ⟨Ds, by rw [put_defers]; exact hDs, hDn, fun D hD => ⟨hk'.dfr D (hDk D hD).1, (hDk D hD).2⟩, hDJ⟩, hbg, hfin⟩
              · unfold Ctx.At
                simp only [hJ]
                refine ⟨hj', trivial, trivial, fun b hb => ?_, fun b hb => hmono b (hw2 b hb)⟩
                rcases (hb' b hb).2 with h1 | h1
                · exact hw1 b h1
                · exact .inr (Nat.le_trans hadv.keeps.size h1)
              · have h1 : R0 B.heap.size W' (fun _ => False) B nt st.tmps st.objs a B L := ⟨h0.size, fun t => move _ _ (h0.tmps t), hO'⟩
                exact h1.put r.dst hd hO' (Adv.refl_of_keeps (Keeps.refl _ _)) (by simp [RelD, RelT])
            have := hK _ _ _ hR
            rw [← hdst]
            exact this
      | clo fv caps =>
        rw [hv] at ht hok hK
        cases fv with
        | func g =>
          simp only at hok hK
          simp only [RelD] at ht
          obtain ⟨vs, hx, hcaps⟩ := ht
          cases hg : Γ g with
          | none => simp [hg] at hok
          | some s =>
            simp only [hg] at hok hK
            cases hk : s.st with
            | none => simp [hk] at hok
            | some k =>
              simp only [hk] at hok hK
              obtain ⟨hcl, hno⟩ := (hΓ g s hg).st k hk _ _ hok
              obtain ⟨N, hN⟩ := hfin
              have hcl := hcl N hN
              have hrun := eval_args (P := P) (w := w) (a := a) (g := g) (caps := vs) ho (fun x hx' => by rw [hcal] at hx'; cases hx'; exact hx) ⟨_, hcal⟩ hcl.entry
              rw [hrun, Oper.uponIn_enter]
              refine ⟨fun hx => (by cases hx), callsIn_wideR ?_⟩
              have hda : RelDA w W st.objs L (args.map (·.ev st.tmps) ++ caps) (c.args.map a.eval ++ vs).toList := by
                simpa using RelDA.append (opds_relDA h0.o.gl h0.tmps hys) (relDA_dcaps hcaps)
              refine (hcl.run base W M w0 w L _ h0.o hda).mono ?_
              rintro e w' ⟨v, L', rfl, hO, hA, hv'⟩
              have := hK _ _ _ (RelR.put hR hat h0 r.dst hd hO hA hv' ⟨N, fun r hr => hno r (hN r hr)⟩)
              rw [← hdst]
              exact this
        | _ => simp at hok
      | _ => rw [hv] at hok; simp at hok
    case entryM x =>
      rw [hrd] at hc hok hK
      have hc' : compileOp P o = some (.entryM x) := hc
      obtain ⟨y, ho, hy⟩ := compile_entry hc'
      simp only [semS] at hok hK
      obtain ⟨nx, v, w', L', hrun, hnx, hO, hA, hv⟩ := entryM_sound h0.o ho (Opd.of_rel h0.o.gl h0.tmps hy) hok
      have hput : (entryMSem st.objs (x.ev st.tmps)).put = none := by unfold entryMSem; (repeat' split) <;> rfl
      rw [hput] at hO hA hv
      rw [hrun]
      rcases hnx with rfl | ⟨rfl, rfl⟩
      · rw [Oper.uponIn_value, ← hdst]
        exact hK _ _ _ (RelR.put hR hat h0 r.dst hd hO hA hv hfin)
      · rw [Oper.uponIn_skip, ← hdst]
        exact hK _ _ _ (RelR.put hR hat h0 r.dst hd hO hA hv hfin)
  · have h4' : is4 r.d = false := by simpa using h4
    have hc0 := hc
    have hbdF : ∀ f args, r.d = .callF f args → bareD r.d = .call f args := fun f args h => by rw [h]; rfl
    unfold post at hok hK
    rw [if_neg h4] at hok hK
    simp only at hok hK
    by_cases hcall : ∃ f args, r.d = .call f args
    · obtain ⟨f, args, hfa⟩ := hcall
      rw [hfa] at hc
      obtain ⟨c, ho, hcc⟩ := compile_call hc (.inl ⟨f, args, rfl⟩)
      obtain ⟨fn, hcal, hfn, hne, hbo, hys⟩ := callee_call hcc
      have hrun := eval_args (P := P) (w := w) (a := a) (g := f) (caps := #[]) ho (fun x hx => by rw [hcal] at hx; cases hx; rfl) ⟨_, hcal⟩ ⟨fn, hfn, hne, hbo⟩
      rw [Array.append_empty] at hrun
      rw [hrun, Oper.uponIn_enter]
      refine ⟨fun hx => (by cases hx), callsIn_wideR ?_⟩
      simp only [eff, hfa, sem, callSem] at hok hK
      cases hg : Γ f with
      | none => simp [hg, bad] at hok
      | some s =>
        simp only [hg] at hok hK
        obtain ⟨hlend, hpre⟩ := hok
        refine (pure_call hΓ h0.o hg hlend hpre (vals := c.args.map a.eval) (by simpa using opds_relDA h0.o.gl h0.tmps hys)).mono ?_
        rintro e w' ⟨v, rfl, hO, hA, hv'⟩
        have := hK _ _ _ (RelR.put hR hat h0 r.dst hd hO hA hv' hfin)
        rw [← hdst]
        exact this
    · by_cases hcallF : ∃ f args, r.d = .callF f args
      · obtain ⟨f, args, hfa⟩ := hcallF
        have hc2 : compileOp P o = some (.call f args) := by rw [← hbdF f args hfa]; exact hc0
        obtain ⟨c, ho, hcc⟩ := compile_call hc2 (.inl ⟨f, args, rfl⟩)
        obtain ⟨fn, hcal, hfn, hne, hbo, hys⟩ := callee_call hcc
        have hrun := eval_args (P := P) (w := w) (a := a) (g := f) (caps := #[]) ho (fun x hx => by rw [hcal] at hx; cases hx; rfl) ⟨_, hcal⟩ ⟨fn, hfn, hne, hbo⟩
        rw [Array.append_empty] at hrun
        rw [hrun, Oper.uponIn_enter]
        refine ⟨fun hx => (by cases hx), callsIn_wideR ?_⟩
        simp only [eff, hfa, sem, callFSem] at hok hK
        cases hg : Γ f with
        | none => simp [hg, bad] at hok
        | some s =>
          simp only [hg] at hok hK
          cases hfr : s.fresh with
          | none => simp [hfr, bad] at hok
          | some q =>
            obtain ⟨e, sz⟩ := q
            simp only [hfr] at hok hK
            cases hrw : s.fn (tOfs st.objs (args.map (·.ev st.tmps))) <;> simp only [hrw, bad] at hok hK <;> try exact hok.elim
            rename_i rows
            obtain ⟨hlend, hpre⟩ := hok
            obtain ⟨rows', h1, h2, h3⟩ := (hΓ f s hg).fresh e sz hfr _ hpre
            rw [hrw] at h1
            cases h1
            refine (fresh_call h0.o hlend h2 h3 (vals := c.args.map a.eval) (by simpa using opds_relDA h0.o.gl h0.tmps hys) hname).mono ?_
            rintro e' w' ⟨v, L', rfl, hO, hA, hv'⟩
            have hfin' : ∃ N, ∀ r', N ≤ r' → (putO st.objs (some (nameOf nxt r.dst, .arr 0 e sz rows))) r' = none := by
              obtain ⟨N, hN⟩ := hfin
              refine ⟨max N (nameOf nxt r.dst + 1), fun r' hr' => ?_⟩
              simp only [putO]
              rw [if_neg (by omega)]
              exact hN r' (by omega)
            have := hK _ _ _ (RelR.put hR hat h0 r.dst hd hO hA hv' hfin')
            rw [← hdst]
            exact this
      by_cases hcallR : ∃ f args, r.d = .callR f args
      · obtain ⟨f, args, hfa⟩ := hcallR
        have hc2 : compileOp P o = some (.call f args) := by rw [show (DOp.call f args) = bareD r.d by rw [hfa]; rfl]; exact hc0
        obtain ⟨c, ho, hcc⟩ := compile_call hc2 (.inl ⟨f, args, rfl⟩)
        obtain ⟨fn, hcal, hfn, hne, hbo, hys⟩ := callee_call hcc
        have hrun := eval_args (P := P) (w := w) (a := a) (g := f) (caps := #[]) ho (fun x hx => by rw [hcal] at hx; cases hx; rfl) ⟨_, hcal⟩ ⟨fn, hfn, hne, hbo⟩
        rw [Array.append_empty] at hrun
        rw [hrun, Oper.uponIn_enter]
        refine ⟨fun hx => (by cases hx), callsIn_wideR ?_⟩
        simp only [eff, hfa, sem, callRSem] at hok hK
        cases hg : Γ f with
        | none => simp [hg, bad] at hok
        | some s =>
          simp only [hg] at hok hK
          cases hk : s.st with
          | none => simp [hk, bad] at hok
          | some k =>
            simp only [hk] at hok hK
            obtain ⟨hok1, hobj, hval⟩ := hok st.objs (fun _ _ => rfl)
            obtain ⟨hcl, hno⟩ := (hΓ f s hg).st k hk _ _ hok1
            obtain ⟨N, hN⟩ := hfin
            have hcl := hcl N hN
            refine (hcl.run base W M w0 w L (c.args.map a.eval) h0.o (by simpa using opds_relDA h0.o.gl h0.tmps hys)).mono ?_
            rintro e w' ⟨v, L', rfl, hO, hA, hv⟩
            rw [hobj] at hO hA hv
            rw [hval] at hv
            have := hK _ _ _ (RelR.put hR hat h0 r.dst hd hO hA hv ⟨N, hN⟩)
            rw [← hdst]
            exact this
      by_cases hmkB : ∃ e sz by' zero n, r.d = .mkSliceB e sz by' zero n
      · obtain ⟨e, sz, by', zero, n, hfa⟩ := hmkB
        have hc2 : compileOp P o = some (.mkSlice e sz by' zero n) := by rw [show (DOp.mkSlice e sz by' zero n) = bareD r.d by rw [hfa]; rfl]; exact hc0
        simp only [eff, hfa, sem] at hok hK
        obtain ⟨nx, v, w', L', hrun, hnx, hO, hA, hv⟩ := mkB_sound h0.o hc2 h0.tmps hname hok
        have hfin' : ∃ N, ∀ r', N ≤ r' → (putO st.objs (makeBSem sz by' zero (nameOf nxt r.dst) (n.ev st.tmps)).put) r' = none := by
          obtain ⟨N, hN⟩ := hfin
          cases hp : (makeBSem sz by' zero (nameOf nxt r.dst) (n.ev st.tmps)).put with
          | none => exact ⟨N, hN⟩
          | some q =>
            obtain ⟨t, o'⟩ := q
            refine ⟨max N (t + 1), fun r' hr' => ?_⟩
            simp only [putO]
            rw [if_neg (by omega)]
            exact hN r' (by omega)
        rw [hrun]
        rcases hnx with rfl | ⟨rfl, rfl⟩
        · rw [Oper.uponIn_value, ← hdst]
          exact hK _ _ _ (RelR.put hR hat h0 r.dst hd hO hA hv hfin')
        · rw [Oper.uponIn_skip, ← hdst]
          exact hK _ _ _ (RelR.put hR hat h0 r.dst hd hO hA hv hfin')
      have hbd : bareD r.d = r.d := by
        cases hrd : r.d <;> rw [hrd] at h4' hcallF hcallR hmkB <;> first | rfl | (simp [is4] at h4'; done) | exact absurd ⟨_, _, rfl⟩ hcallF | exact absurd ⟨_, _, rfl⟩ hcallR | exact absurd ⟨_, _, _, _, _, rfl⟩ hmkB
      rw [hbd] at hc
      have hfin' : ∃ N, ∀ r', N ≤ r' → (putO st.objs (eff Γ nxt r st).put) r' = none := by
        obtain ⟨N, hN⟩ := hfin
        cases hp : (eff Γ nxt r st).put with
        | none => exact ⟨N, hN⟩
        | some q =>
          obtain ⟨t, o'⟩ := q
          refine ⟨max N (t + 1), fun r' hr' => ?_⟩
          simp only [putO]
          rw [if_neg (by omega)]
          exact hN r' (by omega)
      obtain ⟨nx, v, w', L', hrun, hnx, hO, hA, hv⟩ := op_sound (Γ := Γ) (name := nameOf nxt r.dst) hc (fun f args e => hcall ⟨f, args, e⟩) h0.tmps h0.o hname hok
      rw [hrun]
      rcases hnx with rfl | ⟨rfl, rfl⟩
      · rw [Oper.uponIn_value, ← hdst]
        exact hK _ _ _ (RelR.put hR hat h0 r.dst hd hO hA hv hfin')
      · rw [Oper.uponIn_skip, ← hdst]
        exact hK _ _ _ (RelR.put hR hat h0 r.dst hd hO hA hv hfin')
end
end Go.DM
