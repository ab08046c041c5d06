/- The D-machine, part I: one theorem over all operations but calls of Go functions. Conditions: none. -/
import Derived.Test.YtecgedikabjcdaaDmH
namespace Go.DM
open Go.RowKit
set_option linter.unusedSimpArgs false
set_option linter.unusedVariables false
section
variable {P : Program} {base : Nat} {W M : Nat → Prop} {w0 : World} {objs : Obs} {L : Loc} {w : World} {a : Act} {o : Oper} {Γ : Env} {name : Nat} {ρ : Nat → DV} {d : DOp}

theorem tOf_relT {lend : Bool} (W' : Nat → Prop) (hO : RelO base W M w0 objs w L) (hW : lend = true → ∀ r o b, objs r = some o → L.own r o = some b → ¬ W' b) (hW2 : ∀ b, W' b → WW W objs L b) :
    (∀ (d : DV) (x : Value), RelD w W objs L d x → tOk lend objs d → RelT w W' (tOf objs d) x) ∧ (∀ (ds : List DV) (xs : List Value), RelDs w W objs L ds xs → tOks lend objs ds → RelL w W' (tOfs objs ds) xs) := by
  have hk : Keeps (WW W objs L) w w := Keeps.refl _ _
  have one : ∀ (n : Nat), (∀ (d : DV) (x : Value), SizeOf.sizeOf d < n → RelD w W objs L d x → tOk lend objs d → RelT w W' (tOf objs d) x) ∧ (∀ (ds : List DV) (xs : List Value), SizeOf.sizeOf ds < n → RelDs w W objs L ds xs → tOks lend objs ds → RelL w W' (tOfs objs ds) xs) := by
    intro n
    induction n with
    | zero => exact ⟨fun _ _ h => by omega, fun _ _ h => by omega⟩
    | succ n ih =>
      refine ⟨fun d x hn h hok => ?_, fun ds xs hn h hok => ?_⟩
      · cases d with
        | v t => simp only [RelD] at h; simp only [tOf]; exact RelT.keep hk.toKeepsC (fun b _ hb => hW2 b hb) t x h
        | nil0 =>
          simp only [RelD] at h
          obtain ⟨p, rfl⟩ := h
          simp only [tOf, RelT]
          exact .inl ⟨trivial, p, 0, rfl⟩
        | aref r ver =>
          simp only [tOk] at hok
          obtain ⟨hl, hok⟩ := hok
          simp only [RelD] at h
          obtain ⟨_, ver', e, sz, rows, hc, _, hv⟩ := h
          simp only [hc] at hok
          have hv := hv hok
          subst hv
          simp only [tOf, hc, RelT]
          have hob := hO.ob r _ hc
          obtain ⟨hsz, hrows, hm, hal⟩ := hob
          rcases hal with ⟨rfl, p, hp⟩ | ⟨g', cap, cur, hv', hp, hh, hle, hcap, hcur, hrel⟩
          · exact .inl ⟨rfl, p, 0, hp⟩
          · have hcb : capBlock (L.sl r) = some g' := by simp [hv', capBlock, Nat.pos_iff_ne_zero.1 hp]
            refine .inr ⟨g', 0, cap, sz, hv', (Array.getElem?_eq_some_iff.1 hh).1, hW hl r _ g' hc (by simpa [Loc.own] using hcb), hle, ?_⟩
            have hrr := ObOk.rows (hO.ob r _ hc) (g := g') (by simp [hv', capBlock, Nat.pos_iff_ne_zero.1 hp])
            by_cases hg : g' < w.heap.size
            · obtain ⟨vs, hvl, hvr, hvc⟩ := RelRows.flatten hrr
              exact RelRows.of_flatten (RelL.keep hk.toKeepsC (fun b _ hb => hW2 b hb) _ _ hvr) hrows hvc
            · exact absurd (Array.getElem?_eq_some_iff.1 hh).1 hg
        | agg cs =>
          simp only [RelD] at h
          obtain ⟨vs, rfl, hr⟩ := h
          simp only [tOf, RelT]
          simp only [tOk] at hok
          exact ⟨vs, rfl, ih.2 cs _ (by simp at hn ⊢; omega) hr hok⟩
        | _ => exact hok.elim
      · cases ds with
        | nil => simpa [RelDs, RelL, tOfs] using h
        | cons d ds =>
          simp only [RelDs] at h
          obtain ⟨x, xs', rfl, h1, h2, hr⟩ := h
          simp only [tOks] at hok
          simp only [tOfs, RelL]
          exact ⟨x, xs', rfl, h1, ih.1 d x (by simp at hn ⊢; omega) h2 hok.1, ih.2 ds xs' (by simp at hn ⊢; omega) hr hok.2⟩
  exact ⟨fun d x => (one (SizeOf.sizeOf d + 1)).1 d x (by omega), fun ds xs => (one (SizeOf.sizeOf ds + 1)).2 ds xs (by omega)⟩

theorem fits_of_fitsT {W' : Nat → Prop} : ∀ {shs : List Sh} {ts : List T} {vs : List Value}, fitsT shs ts → RelL w W' ts vs → fits shs vs
  | [], ts, vs, h, hr => by
    simp only [fitsT] at h
    subst h
    simpa [RelL, fits] using hr
  | s :: ss, [], vs, h, _ => by simp [fitsT] at h
  | s :: ss, t :: ts, vs, h, hr => by
    simp only [fitsT] at h
    simp only [RelL] at hr
    obtain ⟨v, vs', rfl, _, h2, hr⟩ := hr
    simp only [fits]
    refine ⟨v, vs', rfl, ?_, fits_of_fitsT h.2 hr⟩
    have h1 := h.1
    cases s <;> cases t <;> first | exact absurd h1 Bool.false_ne_true | skip
    all_goals (simp only [RelT] at h2; subst h2; first | rfl | exact h1)

theorem eqT_leaf {W' : Nat → Prop} {s : Sh} {t u : T} {x y : Value} (ht : shOk s t = true) (hu : shOk s u = true) (hx : RelT w W' t x) (hy : RelT w W' u y) : eqTB t u = veq x y := by
  cases s <;> cases t <;> (first | exact absurd ht Bool.false_ne_true | skip) <;> cases u <;> (first | exact absurd hu Bool.false_ne_true | skip)
  all_goals (simp only [RelT] at hx hy; subst hx hy; simp only [eqTB, veq])
  · rfl
  · rename_i s1 s2
    by_cases h : s1 = s2
    · subst h; simp
    · have hne : s1.toList ≠ s2.toList := fun e => h (by
        rw [ByteArray.toList_eq, ByteArray.toList_eq] at e
        obtain ⟨d1⟩ := s1
        obtain ⟨d2⟩ := s2
        exact congrArg ByteArray.mk (Array.ext' e))
      simp [h, hne]

theorem eqTs_leaf {W' : Nat → Prop} : ∀ {shs : List Sh} {ts us : List T} {xs ys : List Value}, fitsT shs ts → fitsT shs us → RelL w W' ts xs → RelL w W' us ys → eqTBs ts us = veqs xs ys
  | [], ts, us, xs, ys, h1, h2, hx, hy => by
    simp only [fitsT] at h1 h2
    subst h1 h2
    simp only [RelL] at hx hy
    subst hx hy
    rfl
  | s :: ss, [], _, _, _, h, _, _, _ => by simp [fitsT] at h
  | s :: ss, _ :: _, [], _, _, _, h, _, _ => by simp [fitsT] at h
  | s :: ss, t :: ts, u :: us, xs, ys, h1, h2, hx, hy => by
    simp only [fitsT] at h1 h2
    simp only [RelL] at hx hy
    obtain ⟨x, xs', rfl, _, hx1, hx⟩ := hx
    obtain ⟨y, ys', rfl, _, hy1, hy⟩ := hy
    simp only [eqTBs, veqs]
    rw [eqT_leaf h1.1 h2.1 hx1 hy1, eqTs_leaf h1.2 h2.2 hx hy]

theorem fitsT_one {shs : List Sh} {t : T} (h : fitsT shs [t]) : ∃ s, shs = [s] ∧ shOk s t = true := by
  cases shs with
  | nil => simp [fitsT] at h
  | cons s ss =>
    simp only [fitsT] at h
    cases ss with
    | nil => exact ⟨s, rfl, h.1⟩
    | cons s2 ss => simp [fitsT] at h

theorem eqSem_leaf {neg agg : Bool} {shs : List Sh} {t u : T} (h : ¬ ((∃ as, t = .agg as) ∧ ∃ bs, u = .agg bs)) : eqSem neg agg shs t u = ⟨agg = false ∧ fitsT shs [t] ∧ fitsT shs [u], .v (.bool (neg ^^ eqTB t u)), none⟩ := by
  cases t <;> first | rfl | (cases u <;> first | rfl | exact absurd ⟨⟨_, rfl⟩, ⟨_, rfl⟩⟩ h)

theorem sh_leaf {n : Nat} {t : TypeId} {s : Sh} {desc : TypeDesc} (hs : shOf P (n + 1) t = some [s]) (hd : P.underlying t = some desc) (ha : aggDesc desc = false) : (s = .bool ∧ desc = .bool) ∨ (s = .str ∧ desc = .string) ∨ ∃ k, s = .int k ∧ desc = .int k := by
  simp only [shOf, hd] at hs
  cases desc
  case bool => simp at hs; exact .inl ⟨hs.symm, rfl⟩
  case int k => simp at hs; exact .inr (.inr ⟨k, hs.symm, rfl⟩)
  case string => simp at hs; exact .inr (.inl ⟨hs.symm, rfl⟩)
  case struct => exact absurd ha (by simp [aggDesc])
  case array => exact absurd ha (by simp [aggDesc])
  all_goals exact absurd hs (by simp)

theorem eq_sound {op : BinOp} {t : TypeId} {x y : Operand} {yt : TypeId} {neg : Bool} (hop : op = if neg then .neq else .eql) (ho : o.op = .binOp op t x y yt) {desc : TypeDesc} (hd : P.underlying t = some desc) (hnint : ∀ k, desc ≠ .int k) {shs : List Sh} (hs : shOf P 10000 t = some shs) (hg : P.eqGuardType P.depth t = false)
    (hO : RelO base W M w0 objs w L) {d1 d2 : DV} (h1 : RelD w W objs L d1 (a.eval x)) (h2 : RelD w W objs L d2 (a.eval y)) (k1 : tOk true objs d1) (k2 : tOk true objs d2) (hok : (eqSem neg (aggDesc desc) shs (tOf objs d1) (tOf objs d2)).ok) :
    OpRun P base W M w0 objs L w a o ⟨True, (eqSem neg (aggDesc desc) shs (tOf objs d1) (tOf objs d2)).val, none⟩ := by
  have r1 := (tOf_relT (lend := true) (fun _ => False) hO (fun _ _ _ _ _ _ h => h) (fun _ h => h.elim)).1 d1 _ h1 k1
  have r2 := (tOf_relT (lend := true) (fun _ => False) hO (fun _ _ _ _ _ _ h => h) (fun _ h => h.elim)).1 d2 _ h2 k2
  by_cases hagg : (∃ as, tOf objs d1 = .agg as) ∧ ∃ bs, tOf objs d2 = .agg bs
  · obtain ⟨⟨as, t1⟩, bs, t2⟩ := hagg
    simp only [t1, t2, eqSem] at hok ⊢
    obtain ⟨ha, f1, f2⟩ := hok
    rw [t1] at r1
    rw [t2] at r2
    simp only [RelT] at r1 r2
    obtain ⟨xs, e1, g1⟩ := r1
    obtain ⟨ys, e2, g2⟩ := r2
    have hq : (Op.equal t (.agg xs) (.agg ys)).run P w = .ok (eqTBs as bs) w := by
      have := equalIn_sh 10000 t shs desc hs hd xs.toList ys.toList w (fits_of_fitsT f1 g1) (fits_of_fitsT f2 g2)
      simp only [mkV, ha, if_true, Array.toArray_toList] at this
      rw [eqTs_leaf f1 f2 g1 g2]
      exact this
    have hguard := run_eqGuard_agg w op t x y xs ys hg
    refine OpRun.bool hO rfl rfl ?_
    subst hop
    cases neg <;> simp only [if_true, if_false, Bool.false_eq_true] at ho hguard <;> simp [execOp, ho, e1, e2, hguard, binOp, hq]
  · rw [eqSem_leaf hagg] at hok ⊢
    obtain ⟨ha, f1, f2⟩ := hok
    obtain ⟨s, rfl, g1⟩ := fitsT_one f1
    obtain ⟨s2, hs2, g2⟩ := fitsT_one f2
    obtain rfl : s = s2 := by simpa using hs2
    refine OpRun.bool hO rfl rfl ?_
    rw [eqT_leaf g1 g2 r1 r2]
    subst hop
    cases s with
    | bool =>
      have hdb : P.underlying t = some .bool := by
        rcases sh_leaf (n := 9999) hs hd ha with ⟨_, rfl⟩ | ⟨h, _⟩ | ⟨k, h, _⟩
        · exact hd
        · cases h
        · cases h
      cases h1' : tOf objs d1 <;> rw [h1'] at g1 r1 <;> first | exact absurd g1 Bool.false_ne_true | skip
      cases h2' : tOf objs d2 <;> rw [h2'] at g2 r2 <;> first | exact absurd g2 Bool.false_ne_true | skip
      simp only [RelT] at r1 r2
      cases neg <;> simp [execOp, ho, r1, r2, eqGuard, run_eql_bool, run_neq_bool, hdb, veq]
    | str =>
      cases h1' : tOf objs d1 <;> rw [h1'] at g1 r1 <;> first | exact absurd g1 Bool.false_ne_true | skip
      cases h2' : tOf objs d2 <;> rw [h2'] at g2 r2 <;> first | exact absurd g2 Bool.false_ne_true | skip
      simp only [RelT] at r1 r2
      cases neg <;> simp [execOp, ho, r1, r2, eqGuard, binOp, Op.stringOp, veq, beq_toListBytes]
    | int k =>
      rcases sh_leaf (n := 9999) hs hd ha with ⟨h, _⟩ | ⟨h, _⟩ | ⟨k', _, h⟩
      · cases h
      · cases h
      · exact absurd h (hnint k')

theorem bslice_rows {W' : Nat → Prop} {sz : Nat} : ∀ (n : Nat) (cs : List T) (vs : List Value) (b o : Nat), cs.length = n * sz → RelL w W' cs vs → (∀ j v, vs[j]? = some v → w.cell? ⟨b, o + j, none⟩ = some v) → RelRows w W' sz b o (chunk sz n cs)
  | 0, _, _, _, _, _, _, _ => by simp [chunk, RelRows]
  | n + 1, cs, vs, b, o, hl, hr, hc => by
    have hsz : sz ≤ cs.length := by rw [hl, Nat.add_mul]; omega
    have hvl := RelL.length hr
    simp only [chunk, RelRows]
    refine ⟨by simp; omega, ?_, ?_⟩
    · refine RelAt.of_relL (RelL.take sz hr) fun j v hj => hc j v ?_
      rw [List.getElem?_take] at hj
      split at hj
      · exact hj
      · cases hj
    · refine bslice_rows n _ (vs.drop sz) b (o + sz) (by rw [List.length_drop, hl, Nat.add_mul]; omega) (RelL.drop sz hr) fun j v hj => ?_
      rw [List.getElem?_drop] at hj
      have := hc (sz + j) v hj
      rwa [show o + sz + j = o + (sz + j) by omega]
theorem chunk_length (sz : Nat) : ∀ (n : Nat) (cs : List T), (chunk sz n cs).length = n
  | 0, _ => rfl
  | n + 1, cs => by simp [chunk, chunk_length sz n]

theorem fillD_length : ∀ (ps : List (Nat × Nat × DV)) (ds : List DV), fillOk ds.length ps → (fillD ds ps).length = ds.length
  | [], ds, _ => rfl
  | (off, sz, d) :: ps, ds, h => by
    simp only [fillOk] at h
    obtain ⟨h1, h2, h3, h4⟩ := h
    have hl : (splice ds off (cellsOf d)).length = ds.length := length_splice (by omega)
    simp only [fillD]
    rw [fillD_length ps _ (by rw [hl]; exact h4), hl]

theorem mapM_of_rel (hρ : ∀ t, RelD w W objs L (ρ t) (a.tmps.getD t Go.undef)) : ∀ {xs : List Operand} {ys : List Opd}, xs.mapM Opd.of = some ys → ∀ (i : Nat) (x : Operand) (y : Opd), xs[i]? = some x → ys[i]? = some y → RelD w W objs L (y.ev ρ) (a.eval x)
  | [], ys, h, i, x, y, hx, _ => by simp at hx
  | x :: xs, ys, h, i, p, q, hp, hq => by
    simp only [List.mapM_cons, Option.pure_def, Option.bind_eq_bind, Option.bind_eq_some_iff, Option.some.injEq] at h
    obtain ⟨y, hy, ys', hys, rfl⟩ := h
    cases i with
    | zero =>
      simp only [List.getElem?_cons_zero, Option.some.injEq] at hp hq
      subst hp hq
      exact Opd.of_rel hρ hy
    | succ i => exact mapM_of_rel hρ hys i p q (by simpa using hp) (by simpa using hq)
theorem mapM_of_length : ∀ {xs : List Operand} {ys : List Opd}, xs.mapM Opd.of = some ys → ys.length = xs.length
  | [], ys, h => by simp at h; simp [h]
  | x :: xs, ys, h => by
    simp only [List.mapM_cons, Option.pure_def, Option.bind_eq_bind, Option.bind_eq_some_iff, Option.some.injEq] at h
    obtain ⟨y, hy, ys', hys, rfl⟩ := h
    simp [mapM_of_length hys]

theorem optOpd_rel (hρ : ∀ t, RelD w W objs L (ρ t) (a.tmps.getD t Go.undef)) {x : Option Operand} {y : Option Opd} (h : optOpd x = some y) : (y.map (·.ev ρ) = none ∧ x.map a.eval = none) ∨ ∃ dl vl, y.map (·.ev ρ) = some dl ∧ x.map a.eval = some vl ∧ RelD w W objs L dl vl := by
  cases x with
  | none => simp only [optOpd, Option.some.injEq] at h; subst h; exact .inl ⟨rfl, rfl⟩
  | some x =>
    simp only [optOpd, Option.map_eq_some_iff] at h
    obtain ⟨z, hz, rfl⟩ := h
    exact .inr ⟨_, _, rfl, rfl, Opd.of_rel hρ hz⟩

theorem pure_one {d : DV} {v : Value} (hp : pureCell d) (h : RelD w W objs L d v) : v.oneCell' = true := by
  cases d with
  | nil0 => simp only [RelD] at h; obtain ⟨p, rfl⟩ := h; rfl
  | v t =>
    simp only [RelD] at h
    cases t with
    | agg ts => exact absurd hp Bool.false_ne_true
    | tup ts => exact absurd hp Bool.false_ne_true
    | raw x => simp only [RelT] at h; subst h; exact hp
    | sl rows => simp only [RelT] at h; rcases h with ⟨_, _, _, rfl⟩ | ⟨_, _, _, _, rfl, _⟩ <;> rfl
    | fn f caps => simp only [RelT] at h; obtain ⟨_, rfl, _⟩ := h; rfl
    | box cs => simp only [RelT] at h; obtain ⟨_, _, rfl, _⟩ := h; rfl
    | bool b => simp only [RelT] at h; subst h; rfl
    | int k n => simp only [RelT] at h; subst h; rfl
    | str k => simp only [RelT] at h; subst h; rfl
  | _ => exact hp.elim
theorem opds_rel (hρ : ∀ t, RelD w W objs L (ρ t) (a.tmps.getD t Go.undef)) : ∀ {xs : List Operand} {ys : List Opd}, xs.mapM Opd.of = some ys → pureCells (ys.map (·.ev ρ)) → RelDs w W objs L (ys.map (·.ev ρ)) (xs.map a.eval)
  | [], ys, h, _ => by simp at h; subst h; simp [RelDs]
  | x :: xs, ys, h, hp => by
    simp only [List.mapM_cons, Option.pure_def, Option.bind_eq_bind, Option.bind_eq_some_iff, Option.some.injEq] at h
    obtain ⟨y, hy, ys', hys, rfl⟩ := h
    simp only [List.map_cons, pureCells] at hp
    simp only [List.map_cons, RelDs]
    have r := Opd.of_rel hρ hy
    exact ⟨_, _, rfl, pure_one hp.1 r, r, opds_rel hρ hys hp.2⟩
theorem opds_relA (W' : Nat → Prop) {lend : Bool} (hO : RelO base W M w0 objs w L) (hW : lend = true → ∀ r o b, objs r = some o → L.own r o = some b → ¬ W' b) (hW2 : ∀ b, W' b → WW W objs L b) (hρ : ∀ t, RelD w W objs L (ρ t) (a.tmps.getD t Go.undef)) :
    ∀ {xs : List Operand} {ys : List Opd}, xs.mapM Opd.of = some ys → tOks lend objs (ys.map (·.ev ρ)) → RelA w W' (tOfs objs (ys.map (·.ev ρ))) (xs.map a.eval)
  | [], ys, h, _ => by simp at h; subst h; simp [RelA, tOfs]
  | x :: xs, ys, h, hp => by
    simp only [List.mapM_cons, Option.pure_def, Option.bind_eq_bind, Option.bind_eq_some_iff, Option.some.injEq] at h
    obtain ⟨y, hy, ys', hys, rfl⟩ := h
    simp only [List.map_cons, tOks] at hp
    simp only [List.map_cons, tOfs, RelA]
    exact ⟨_, _, rfl, (tOf_relT W' hO hW hW2).1 _ _ (Opd.of_rel hρ hy) hp.1, opds_relA W' hO hW hW2 hρ hys hp.2⟩

/-- Every operation that is no call of a Go function. -/
theorem op_sound (hc : compileOp P o = some d) (hcall : ∀ f args, d ≠ .call f args) (hρ : ∀ t, RelD w W objs L (ρ t) (a.tmps.getD t Go.undef)) (hO : RelO base W M w0 objs w L) (hname : objs name = none) (hok : (sem Γ d name ρ objs).ok) :
    OpRun P base W M w0 objs L w a o (sem Γ d name ρ objs) := by
  unfold compileOp at hc
  cases ho : o.op <;> simp only [ho, reduceCtorEq] at hc
  case move x =>
    simp only [Option.map_eq_some_iff] at hc
    obtain ⟨y, hy, rfl⟩ := hc
    exact OpRun.quiet hO rfl (v := a.eval x) (by simp [execOp, ho]) (Opd.of_rel hρ hy)
  case assign x =>
    simp only [Option.map_eq_some_iff] at hc
    obtain ⟨y, hy, rfl⟩ := hc
    exact OpRun.quiet hO rfl (v := a.eval x) (by simp [execOp, ho]) (Opd.of_rel hρ hy)
  case pick c x y =>
    simp only [Option.pure_def, Option.bind_eq_bind, Option.bind_eq_some_iff, Option.some.injEq] at hc
    obtain ⟨c', hc', x', hx, y', hy, rfl⟩ := hc
    have r := Opd.of_rel hρ hc'
    unfold sem at hok ⊢
    simp only at hok ⊢
    split at hok
    · rename_i t ht
      rw [ht] at r
      simp only [RelD, RelT] at r
      refine OpRun.quiet hO rfl (v := if t then a.eval x else a.eval y) (by simp [execOp, ho, r, asBool]) ?_
      cases t
      · exact Opd.of_rel hρ hy
      · exact Opd.of_rel hρ hx
    · exact hok.elim
  case alloc e =>
    simp only [Option.pure_def, Option.bind_eq_bind, Option.bind_eq_some_iff, Option.some.injEq] at hc
    obtain ⟨i, hi, z, hz, zs, hzs, rfl⟩ := hc
    have h := new_box hO hname e (mapM_constD_rel hzs)
    refine ⟨_, .pointer (some ⟨w.heap.size, 0, none⟩), _, _, ?_, .inl rfl, h.1, h.2, ?_⟩
    · simp [execOp, ho, Instr.alloc, zeroValue, typeInfo, hi, hz, newVar, newRow]
    · simp only [sem, RelD]
      exact ⟨⟨zs, by simp [putO]⟩, by simp [Loc.setBlk]⟩
  case box e x =>
    simp only [Option.map_eq_some_iff] at hc
    obtain ⟨y, hy, rfl⟩ := hc
    have h := new_box hO hname e (RelD.cells (Opd.of_rel hρ hy) hok)
    refine ⟨_, .pointer (some ⟨w.heap.size, 0, none⟩), _, _, ?_, .inl rfl, h.1, h.2, ?_⟩
    · simp [execOp, ho, Instr.box, newVar, newRow]
    · simp only [sem, RelD]
      exact ⟨⟨cellsOf (y.ev ρ), by simp [putO]⟩, by simp [Loc.setBlk]⟩
  case build t parts =>
    simp only [Option.pure_def, Option.bind_eq_bind, Option.bind_eq_some_iff, Option.some.injEq] at hc
    obtain ⟨i, hi, z, hz, zs, hzs, pl, hpl, ps, hps, rfl⟩ := hc
    have hzr := mapM_constD_rel (w := w) (W := W) (objs := objs) (L := L) hzs
    have hzl := RelDs.length hzr
    simp only [Array.length_toList] at hzl
    simp only [sem] at hok ⊢
    obtain ⟨cells, h1, h2, h3⟩ := fill_rel hρ parts.toList ps hps z.cells zs hzr (by rw [hzl]; exact hok)
    have hb : P.built t (parts.map fun x => (x.1, a.eval x.2)).toList = some cells := by
      unfold Program.built
      unfold places at hpl
      cases hu : P.underlying t with
      | none => simp [hu] at hpl
      | some desc =>
        cases desc <;> simp only [hu, reduceCtorEq] at hpl
        case array n e =>
          simp only [Option.map_eq_some_iff] at hpl
          obtain ⟨ie, hie, rfl⟩ := hpl
          simpa [hi, hz, hie] using h1
        case struct fields =>
          simp only [Option.map_eq_some_iff] at hpl
          obtain ⟨pl', hpl', rfl⟩ := hpl
          simp only [hi, hz, hpl', Array.toList_map]
          simpa using h1
    refine OpRun.quiet hO rfl (v := .agg cells) ?_ (by simp only [RelD]; exact ⟨cells, rfl, h2⟩)
    have := run_build w t (parts.map fun x => (x.1, a.eval x.2)) cells hb
    simp [execOp, ho, this]
  case buildSlice t len parts =>
    split at hc
    · rename_i e hu
      simp only [Option.pure_def, Option.bind_eq_bind, Option.bind_eq_some_iff] at hc
      obtain ⟨i, hi, hc⟩ := hc
      split at hc
      · cases hc
      · rename_i hsz
        simp only [Option.bind_eq_some_iff, Option.some.injEq] at hc
        obtain ⟨z, hz, zs, hzs, ps, hps, rfl⟩ := hc
        have hzr := mapM_constD_rel (w := w) (W := W) (objs := objs) (L := L) hzs
        have hzl := RelDs.length hzr
        have hlen : ¬ len * i.size > 2 ^ 24 := fun h => hsz (.inl h)
        have hpos : i.size ≠ 0 := fun h => hsz (.inr h)
        simp only [Array.length_toList, Array.size_map, Array.size_range] at hzl
        simp only [sem] at hok ⊢
        by_cases h0 : len = 0
        · subst h0
          simp only [if_true] at hok ⊢
          subst hok
          have hp0 : parts.toList = [] := by
            cases hp : parts.toList with
            | nil => rfl
            | cons p ps' =>
              rw [hp] at hps
              simp only [ofParts, List.mapM_cons, Option.pure_def, Option.bind_eq_bind, Option.bind_eq_some_iff, Option.some.injEq, reduceCtorEq, and_false, exists_false] at hps
          have hp1 : parts = #[] := by cases parts; simp_all
          have hr := run_buildSlice (P := P) w hu hi hz 0 (by simp) (parts := #[]) (cells := #[]) (by simp [Instr.fill, Array.range_zero'])
          have hg := RelO.grow hO (below_alloc (w := w) (.cells #[] e))
          refine ⟨_, .slice (some ⟨w.heap.size, 0, none⟩) 0 0, _, L, ?_, .inl rfl, hg.1, hg.2, by simp only [RelD]; exact ⟨_, rfl⟩⟩
          simp [execOp, ho, hp1, hr]
        · simp only [h0, if_false] at hok ⊢
          obtain ⟨hf, hpure⟩ := hok
          obtain ⟨cells, h1, h2, h3⟩ := fill_rel hρ parts.toList ps hps _ zs hzr (by simpa using hf)
          have hr := run_buildSlice (P := P) w hu hi hz len hlen (parts := parts.map fun x => (x.1, a.eval x.2)) (cells := cells) (by simpa using h1)
          have hg := RelO.grow hO (below_alloc (w := w) (.cells cells e))
          refine ⟨_, .slice (some ⟨w.heap.size, 0, none⟩) len len, _, L, ?_, .inl rfl, hg.1, hg.2, ?_⟩
          · simp [execOp, ho, hr]
          · have hl2 := relL_of_pure (objs2 := fun _ => none) hpure (RelDs.adv hg.2 _ _ h2)
            simp only [putO, RelD, RelT, chunk_length]
            refine .inr ⟨w.heap.size, 0, len, i.size, rfl, by simp, ?_, Nat.le_refl _, ?_⟩
            · rintro (hw | ⟨r, ob, hr1, hr2⟩)
              · have h1 := hO.under _ hw
                have h2 := hO.fr.size0
                have h3 := hO.fr.size
                omega
              · have := (hO.ob r ob hr1).lt hr2
                omega
            · refine bslice_rows len _ cells.toList _ _ ?_ hl2 fun j v hj => ?_
              · rw [tOfs_length, fillD_length _ _ (by rw [← hzl]; exact hf), ← hzl]
              · rw [Nat.zero_add, cell_of_row (w.alloc (.cells cells e)) w.heap.size j cells e (0, 0) (heap_alloc_new w _)]
                simpa using hj
    · cases hc
  case load t x =>
    split at hc
    · rename_i desc i hd hi
      simp only [Option.map_eq_some_iff] at hc
      obtain ⟨y, hy, rfl⟩ := hc
      simp only [sem] at hok ⊢
      obtain ⟨hp, v, hrun, hv⟩ := load_sound hO hd hi (Opd.of_rel hρ hy) hok
      exact OpRun.quiet hO hp (v := v) (by simp [execOp, ho, hrun]) hv
    · cases hc
  case store t x y =>
    simp only [Option.pure_def, Option.bind_eq_bind, Option.bind_eq_some_iff, Option.some.injEq] at hc
    obtain ⟨i, hi, x', hx, y', hy, rfl⟩ := hc
    have rx := Opd.of_rel hρ hx
    have ry := Opd.of_rel hρ hy
    simp only [sem] at hok ⊢
    cases hd : x'.ev ρ with
    | ptr r off =>
      rw [hd] at rx
      simp only [RelD] at rx
      obtain ⟨⟨cs, hcs⟩, hxv⟩ := rx
      simp only [hd, storeSem, hcs] at hok ⊢
      obtain ⟨w', h1, h2, h3⟩ := store_box hO hi hcs ry hok.1 hok.2.1 hok.2.2
      exact ⟨.skip, Go.undef, w', L, by simp [execOp, ho, hxv, h1], .inr ⟨rfl, rfl⟩, h2, h3, by simp [RelD]⟩
    | aptr r ver j off =>
      rw [hd] at rx
      simp only [RelD] at rx
      obtain ⟨_, ver', e, sz, rows, hcs, _, hx2⟩ := rx
      simp only [hd, storeSem, hcs] at hok ⊢
      obtain ⟨rfl, hn, hfit, hpure⟩ := hok
      obtain ⟨g, hg, hxv, h0, h1⟩ := hx2 rfl
      obtain ⟨w', h1, h2, h3⟩ := store_arr hO hi hcs hg h0 h1 ry hn hfit hpure
      exact ⟨.skip, Go.undef, w', L, by simp [execOp, ho, hxv, h1], .inr ⟨rfl, rfl⟩, h2, h3, by simp [RelD]⟩
    | _ => rw [hd] at hok; exact hok.elim
  case nilCheck x =>
    simp only [Option.map_eq_some_iff] at hc
    obtain ⟨y, hy, rfl⟩ := hc
    have rx := Opd.of_rel hρ hy
    simp only [sem] at hok ⊢
    obtain ⟨h1, h2, h3⟩ := nilCheck_sound rx hok
    refine OpRun.quiet hO h1 (v := a.eval x) ?_ (by rw [h2]; exact rx)
    rcases h3 with ⟨p, hp⟩ | ⟨f, caps, hp⟩
    · simp only [execOp, ho, hp]; simp
    · simp only [execOp, ho, hp]; simp
  case binOp op t x y yt =>
    simp only [Option.bind_eq_bind, Option.bind_eq_some_iff] at hc
    obtain ⟨x', hx, y', hy, hc⟩ := hc
    have rx := Opd.of_rel hρ hx
    have ry := Opd.of_rel hρ hy
    unfold compileBin at hc
    split at hc
    · split at hc
      all_goals first
        | (simp only [Option.some.injEq] at hc; subst hc; exact bin_sound hO ho rx ry hok)
        | cases hc
    · rename_i desc hnint hd
      split at hc
      · rename_i shs hs
        split at hc
        · cases hc
        · rename_i hg
          simp only [Option.some.injEq] at hc
          subst hc
          simp only [sem] at hok ⊢
          obtain ⟨k1, k2, hok⟩ := hok
          exact eq_sound (neg := false) rfl ho hd (fun k hk => hnint k hk) hs (by simpa using hg) hO rx ry k1 k2 hok
      · rename_i shs hs
        split at hc
        · cases hc
        · rename_i hg
          simp only [Option.some.injEq] at hc
          subst hc
          simp only [sem] at hok ⊢
          obtain ⟨k1, k2, hok⟩ := hok
          exact eq_sound (neg := true) rfl ho hd (fun k hk => hnint k hk) hs (by simpa using hg) hO rx ry k1 k2 hok
      · cases hc
    · cases hc
  case unOp op t x =>
    simp only [Option.map_eq_some_iff] at hc
    obtain ⟨y, hy, rfl⟩ := hc
    have rx := Opd.of_rel hρ hy
    unfold sem unSem at hok ⊢
    simp only at hok ⊢
    split at hok
    · rename_i b hb
      rw [hb] at rx
      simp only [RelD, RelT] at rx
      split at hok
      · exact OpRun.bool hO rfl rfl (by simp [execOp, ho, rx, Op.unary])
      · exact hok.elim
    · rename_i k n hb
      rw [hb] at rx
      simp only [RelD, RelT] at rx
      split at hok
      · exact OpRun.int hO rfl rfl (by simp [execOp, ho, rx, Op.unary, Op.intArith])
      · exact hok.elim
    · exact hok.elim
  case convert src dst x =>
    split at hc
    · rename_i k0 k hs hd
      simp only [Option.map_eq_some_iff] at hc
      obtain ⟨y, hy, rfl⟩ := hc
      have rx := Opd.of_rel hρ hy
      unfold sem at hok ⊢
      simp only at hok ⊢
      split at hok
      · rename_i k1 n hb
        rw [hb] at rx
        simp only [RelD, RelT] at rx
        exact OpRun.int hO rfl rfl (by simp [execOp, ho, rx, convert, run_underlying hs, run_underlying hd, Conv.intToInt])
      · exact hok.elim
    · cases hc
  case fieldAddr s x f =>
    split at hc
    · rename_i fs hs
      split at hc
      · rename_i fd hf
        split at hc
        · rename_i fi hi
          split at hc
          · cases hc
          · rename_i hsz
            simp only [Option.map_eq_some_iff] at hc
            obtain ⟨y, hy, rfl⟩ := hc
            have rx := Opd.of_rel hρ hy
            simp only [sem] at hok ⊢
            obtain ⟨hp, b, oo, hxv, hv⟩ := addOff_sound rx hok
            refine OpRun.quiet hO hp (v := .pointer (some ⟨b, oo + fd.offset, none⟩)) ?_ hv
            simp [execOp, ho, hxv, Instr.fieldAt, run_underlying hs, hf, Instr.sureAddr, fieldPlace, run_sizeOf hi, hsz, add_off]
        · cases hc
      · cases hc
    · cases hc
  case field s x f =>
    split at hc
    · rename_i fs hs
      split at hc
      · rename_i fd hf
        split at hc
        · rename_i fi desc hi hd
          simp only [Option.map_eq_some_iff] at hc
          obtain ⟨y, hy, rfl⟩ := hc
          have rx := Opd.of_rel hρ hy
          simp only [sem] at hok ⊢
          obtain ⟨hp, v, hrun, hv⟩ := field_sound hs hf hi hd rx hok
          exact OpRun.quiet hO hp (v := v) (by simp [execOp, ho, hrun]) hv
        · cases hc
      · cases hc
    · cases hc
  case indexAddr t x ix =>
    split at hc
    · rename_i e ht
      split at hc
      · rename_i i hi
        simp only [Option.pure_def, Option.bind_eq_bind, Option.bind_eq_some_iff, Option.some.injEq] at hc
        obtain ⟨x', hx, y', hy, rfl⟩ := hc
        simp only [sem] at hok ⊢
        obtain ⟨hp, v, hrun, hv⟩ := idx_sound hO ht hi (Opd.of_rel hρ hx) (Opd.of_rel hρ hy) hok
        exact OpRun.quiet hO hp (v := v) (by simp [execOp, ho, hrun]) hv
      · cases hc
    · rename_i n e ht
      split at hc
      · rename_i i hi
        simp only [Option.pure_def, Option.bind_eq_bind, Option.bind_eq_some_iff, Option.some.injEq] at hc
        obtain ⟨x', hx, y', hy, rfl⟩ := hc
        simp only [sem] at hok ⊢
        obtain ⟨hp, v, hrun, hv⟩ := arrAddr_sound ht hi (Opd.of_rel hρ hx) (Opd.of_rel hρ hy) hok
        exact OpRun.quiet hO hp (v := v) (by simp [execOp, ho, hrun]) hv
      · cases hc
    · cases hc
  case slice t x lo hi' mx =>
    cases mx with
    | some m => cases hc
    | none =>
      simp only at hc
      split at hc
      · rename_i e ht
        split at hc
        · rename_i i hi
          simp only [Option.pure_def, Option.bind_eq_bind, Option.bind_eq_some_iff, Option.some.injEq] at hc
          obtain ⟨x', hx, lo', hlo, hi2, hhi, rfl⟩ := hc
          simp only [sem] at hok ⊢
          obtain ⟨hp, v, hrun, hv⟩ := slice_sound ht hi (Opd.of_rel hρ hx) (optOpd_rel hρ hlo) (optOpd_rel hρ hhi) hok
          exact OpRun.quiet hO hp (v := v) (by simp [execOp, ho, hrun]) hv
        · cases hc
      · cases hc
  case extract x i =>
    simp only [Option.map_eq_some_iff] at hc
    obtain ⟨y, hy, rfl⟩ := hc
    have rx := Opd.of_rel hρ hy
    unfold sem extractSem at hok ⊢
    simp only at hok ⊢
    split at hok
    · rename_i ts hb
      rw [hb] at rx
      simp only [RelD, RelT] at rx
      obtain ⟨vs, hv, hr⟩ := rx
      obtain ⟨v, hv2, hr2⟩ := RelA.get hr (i := i) (t := ts.getD i default) (by simp [List.getD, show i < ts.length from hok])
      refine OpRun.quiet hO rfl (v := v) ?_ (by simp only [RelD]; exact hr2)
      have : vs[i]? = some v := by simpa using hv2
      simp [execOp, ho, hv, Instr.extract, this]
    · exact hok.elim
  case makeSlice t l c =>
    split at hc
    · rename_i e ht
      split at hc
      · rename_i i hi
        split at hc
        · rename_i z hz
          split at hc
          · rename_i p q
            split at hc
            · rename_i hpq
              obtain ⟨rfl, hsz⟩ := hpq
              simp only [Option.pure_def, Option.bind_eq_bind, Option.bind_eq_some_iff, Option.some.injEq] at hc
              obtain ⟨zero, hzero, rfl⟩ := hc
              simp only [sem] at hok ⊢
              obtain ⟨v, w', L', h1, h2, h3, h4⟩ := make_sound hO ht hi hz hsz hzero hname (Opd.of_rel hρ (x := .tmp p) rfl) hok
              exact ⟨.value v, v, w', L', by simp [execOp, ho, h1], .inl rfl, h2, h3, h4⟩
            · cases hc
          · rename_i k p k' q
            split at hc
            · rename_i hpq
              obtain ⟨rfl, rfl, hsz⟩ := hpq
              simp only [Option.pure_def, Option.bind_eq_bind, Option.bind_eq_some_iff, Option.some.injEq] at hc
              obtain ⟨zero, hzero, rfl⟩ := hc
              simp only [sem] at hok ⊢
              obtain ⟨v, w', L', h1, h2, h3, h4⟩ := make_sound hO ht hi hz hsz hzero hname (Opd.of_rel (ρ := ρ) hρ (x := .const (.int k p)) rfl) hok
              exact ⟨.value v, v, w', L', by simp [execOp, ho, h1], .inl rfl, h2, h3, h4⟩
            · cases hc
          · cases hc
        · cases hc
      · cases hc
    · cases hc
  case makeFunc f first caps =>
    split at hc
    · rename_i hf
      simp only [Option.pure_def, Option.bind_eq_bind, Option.bind_eq_some_iff, Option.some.injEq] at hc
      obtain ⟨cs, hcs, rfl⟩ := hc
      simp only [sem] at hok ⊢
      have hr : RelDs w W objs L (cs.map (·.ev ρ)) (caps.map a.eval).toList := by
        simpa using opds_rel hρ hcs hok
      refine OpRun.quiet hO rfl (v := .func f #[] (caps.map a.eval)) ?_ ?_
      · have : first = #[] := by simpa using hf
        simp [execOp, ho, this, Instr.makeFunc]
      · simp only [RelD, RelT]
        exact ⟨_, rfl, relL_of_pure hok hr⟩
    · cases hc
  case call c =>
    have hargs : ∀ {xs : List Operand}, c.args.toList = xs → c.args = xs.toArray := fun h => by rw [← h, Array.toArray_toList]
    have htys : ∀ {xs : List TypeId}, c.argTypes.toList = xs → c.argTypes = xs.toArray := fun h => by rw [← h, Array.toArray_toList]
    unfold compileCall at hc
    split at hc
    · split at hc
      · split at hc
        · cases hc
        · simp only [Option.map_eq_some_iff] at hc
          obtain ⟨y, _, rfl⟩ := hc
          exact absurd rfl (hcall _ _)
      · cases hc
    · obtain ⟨ys, _, rfl⟩ := Option.map_eq_some_iff.1 hc
      exact hok.elim
    · rename_i hcal
      split at hc
      · rename_i x t hx ht
        have hce : c = { callee := .builtin .len, args := #[x], argTypes := #[t] } := by
          have h1 := hargs hx
          have h2 := htys ht
          cases c
          simp_all
        subst hce
        split at hc
        · rename_i e hu
          simp only [Option.map_eq_some_iff] at hc
          obtain ⟨y, hy, rfl⟩ := hc
          exact len_sound hO ho hu (Opd.of_rel hρ hy) hok
        · rename_i hu
          simp only [Option.map_eq_some_iff] at hc
          obtain ⟨y, hy, rfl⟩ := hc
          exact lenS_sound hO ho hu (Opd.of_rel hρ hy) hok
        · cases hc
      · cases hc
    · rename_i hcal
      split at hc
      · rename_i x y hx
        have hce : c = { callee := .builtin .min, args := #[x, y], argTypes := c.argTypes } := by
          have h1 := hargs hx
          cases c
          simp_all
        simp only [Option.pure_def, Option.bind_eq_bind, Option.bind_eq_some_iff, Option.some.injEq] at hc
        obtain ⟨x', hx', y', hy', rfl⟩ := hc
        exact minmax_sound false hO (by rw [ho, hce]; rfl) (Opd.of_rel hρ hx') (Opd.of_rel hρ hy') hok
      · cases hc
    · rename_i hcal
      split at hc
      · rename_i x y hx
        have hce : c = { callee := .builtin .max, args := #[x, y], argTypes := c.argTypes } := by
          have h1 := hargs hx
          cases c
          simp_all
        simp only [Option.pure_def, Option.bind_eq_bind, Option.bind_eq_some_iff, Option.some.injEq] at hc
        obtain ⟨x', hx', y', hy', rfl⟩ := hc
        exact minmax_sound true hO (by rw [ho, hce]; rfl) (Opd.of_rel hρ hx') (Opd.of_rel hρ hy') hok
      · cases hc
    · rename_i hcal
      split at hc
      · rename_i x y t t' hx ht
        have hce : c = { callee := .builtin .append, args := #[x, y], argTypes := #[t, t'] } := by
          have h1 := hargs hx
          have h2 := htys ht
          cases c
          simp_all
        subst hce
        split at hc
        · cases hc
        · rename_i htt
          have htt : t = t' := by simpa using htt
          subst htt
          split at hc
          · rename_i e hu
            split at hc
            · rename_i i hi
              split at hc
              · rename_i z hz
                split at hc
                · rename_i hsz
                  simp only [Option.pure_def, Option.bind_eq_bind, Option.bind_eq_some_iff, Option.some.injEq] at hc
                  obtain ⟨x', hx', y', hy', rfl⟩ := hc
                  simp only [sem] at hok ⊢
                  obtain ⟨v, w', L', h1, h2, h3, h4⟩ := append_sound (ty := o.type) hO hu hi hz hsz.1 hsz.2 hname (Opd.of_rel hρ hx') (Opd.of_rel hρ hy') hok
                  exact ⟨.value v, v, w', L', by simp [execOp, ho, resolve, invoke, builtin, h1], .inl rfl, h2, h3, h4⟩
                · cases hc
              · cases hc
            · cases hc
          · cases hc
      · cases hc
    · cases hc
end
end Go.DM
