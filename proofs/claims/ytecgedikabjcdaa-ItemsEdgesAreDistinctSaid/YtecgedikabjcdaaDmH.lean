/- The D-machine, part H: each operation does in the model what the machine says. Conditions: none. -/
import Derived.Test.YtecgedikabjcdaaDmG
import Derived.Laws.Shifts
namespace Go.DM
open Go.RowKit
set_option linter.unusedSimpArgs false
set_option linter.unusedVariables false

/-- What an operation's run leaves. -/
def OpRun (P : Program) (base : Nat) (W M : Nat → Prop) (w0 : World) (objs : Obs) (L : Loc) (w : World) (a : Act) (o : Oper) (e : Eff) : Prop :=
  ∃ nx v w' L', (execOp a.eval o).run P w = .ok nx w' ∧ (nx = .value v ∨ (nx = .skip ∧ v = Go.undef)) ∧
    RelO base W M w0 (putO objs e.put) w' L' ∧ Adv W objs L w (putO objs e.put) L' w' ∧ RelD w' W (putO objs e.put) L' e.val v

section
variable {P : Program} {base : Nat} {W M : Nat → Prop} {w0 : World} {objs : Obs} {L : Loc} {w : World} {a : Act} {o : Oper}

theorem OpRun.quiet (hO : RelO base W M w0 objs w L) {e : Eff} (hput : e.put = none) {v : Value} (hrun : (execOp a.eval o).run P w = .ok (.value v) w) (hv : RelD w W objs L e.val v) : OpRun P base W M w0 objs L w a o e :=
  ⟨.value v, v, w, L, hrun, .inl rfl, by rw [hput]; exact hO, by rw [hput]; exact Adv.refl_of_keeps (Keeps.refl _ _), by rw [hput]; exact hv⟩

theorem OpRun.int (hO : RelO base W M w0 objs w L) {e : Eff} (hput : e.put = none) {k : IntKind} {n : Int} (hval : e.val = .v (.int k n)) (hrun : (execOp a.eval o).run P w = .ok (.value (.int k n)) w) : OpRun P base W M w0 objs L w a o e :=
  OpRun.quiet hO hput hrun (by rw [hval]; simp [RelD, RelT])
theorem OpRun.bool (hO : RelO base W M w0 objs w L) {e : Eff} (hput : e.put = none) {b : Bool} (hval : e.val = .v (.bool b)) (hrun : (execOp a.eval o).run P w = .ok (.value (.bool b)) w) : OpRun P base W M w0 objs L w a o e :=
  OpRun.quiet hO hput hrun (by rw [hval]; simp [RelD, RelT])

theorem bin_sound (hO : RelO base W M w0 objs w L) {op : BinOp} {t : TypeId} {x y : Operand} {yt : TypeId} (ho : o.op = .binOp op t x y yt) {d1 d2 : DV} (h1 : RelD w W objs L d1 (a.eval x)) (h2 : RelD w W objs L d2 (a.eval y)) (hok : (binSem op d1 d2).ok) :
    OpRun P base W M w0 objs L w a o (binSem op d1 d2) := by
  have key : ∀ {k k' : IntKind} {p q : Int}, d1 = .v (.int k p) → d2 = .v (.int k' q) → OpRun P base W M w0 objs L w a o (binSem op d1 d2) := by
    rintro k k' p q rfl rfl
    simp only [RelD, RelT] at h1 h2
    have hex : ∀ (v : Value), (eqGuard op t x y (.int k p) (.int k' q)).run P w = .ok () w → (binOp op t (.int k p) (.int k' q)).run P w = .ok v w → (execOp a.eval o).run P w = .ok (.value v) w := by
      intro v e1 e2
      simp [execOp, ho, h1, h2, e1, e2]
    have hg : (eqGuard op t x y (.int k p) (.int k' q)).run P w = .ok () w := by cases op <;> simp [eqGuard]
    cases op <;> simp only [binSem, bad] at hok ⊢
    all_goals first
      | exact hok.elim
      | (subst hok; first
          | (refine OpRun.int hO rfl rfl (hex _ hg ?_); simp [binOp, Op.intArith]; done)
          | (refine OpRun.int hO rfl rfl (hex _ hg ?_); simp [binOp, Op.intBits]; done)
          | (refine OpRun.bool hO rfl rfl (hex _ hg ?_); simp [binOp, Op.intCmp]; done)
          | (refine OpRun.bool hO rfl rfl (hex _ hg ?_); simp [binOp, Op.intCmp]; rfl))
      | (refine OpRun.int hO rfl rfl (hex _ hg ?_); simp [binOp, shift_shl_any _ _ _ _ hok, shift_shr_any _ _ _ _ hok]; done)
      | (obtain ⟨rfl, hq⟩ := hok; exact OpRun.int hO rfl rfl (hex _ hg (by simp [binOp, Op.intDiv, hq])))
  unfold binSem at hok
  split at hok
  · exact key rfl rfl
  · exact hok.elim

theorem run_exec_value {s : Sem Value} {v : Value} {w' : World} (h : s.run P w = .ok v w') : ((do pure (.value (← s)) : Sem Next)).run P w = .ok (.value v) w' := by simp [h]
theorem run_exec_unit {s : Sem Unit} {w' : World} (h : s.run P w = .ok () w') : ((do s; pure .skip : Sem Next)).run P w = .ok .skip w' := by simp [h]

theorem relD_cells_map {cs : List T} {vs : List Value} (h : RelL w (WW W objs L) cs vs) : RelDs w W objs L (cs.map .v) vs := RelDs.of_relL h

theorem aggCells_rel {d : DV} {x : Value} {cs : List DV} (h : RelD w W objs L d x) (hc : aggCells d = some cs) : ∃ vs : Array Value, x = .agg vs ∧ RelDs w W objs L cs vs.toList := by
  cases d with
  | v t =>
    cases t with
    | agg ts =>
      simp only [aggCells, Option.some.injEq] at hc
      subst hc
      simp only [RelD, RelT] at h
      obtain ⟨vs, rfl, hr⟩ := h
      exact ⟨vs, rfl, RelDs.of_relL hr⟩
    | _ => simp [aggCells] at hc
  | agg ds =>
    simp only [aggCells, Option.some.injEq] at hc
    subst hc
    simp only [RelD] at h
    exact h
  | _ => simp [aggCells] at hc

theorem field_sound {s : TypeId} {xv : Value} {f : Nat} {fs : Array Field} {fd : Field} {i : TypeInfo} {desc : TypeDesc} (hs : P.underlying s = some (.struct fs)) (hf : fs[f]? = some fd) (hi : P.info? fd.type = some i) (hd : P.underlying fd.type = some desc)
    {d : DV} (h : RelD w W objs L d xv) (hok : (fieldSem fd.offset i.size (aggDesc desc) d).ok) :
    (fieldSem fd.offset i.size (aggDesc desc) d).put = none ∧ ∃ v, (Instr.field s xv f).run P w = .ok v w ∧ RelD w W objs L (fieldSem fd.offset i.size (aggDesc desc) d).val v := by
  unfold fieldSem at hok ⊢
  cases hc : aggCells d with
  | none => simp [hc, bad] at hok
  | some cs =>
    simp only [hc] at hok ⊢
    obtain ⟨vs, rfl, hr⟩ := aggCells_rel h hc
    have hl := RelDs.length hr
    have hp := run_part (P := P) w hd hi (xs := vs.toList) (off := fd.offset) hok.2 (by omega)
    simp only [Array.toArray_toList] at hp
    refine ⟨trivial, _, by simp [Instr.field, run_underlying hs, hf, asAgg, hp]; rfl, ?_⟩
    by_cases ha : aggDesc desc = true
    · simp only [ha, if_true, mkV, RelD]
      exact ⟨_, rfl, by simpa using RelDs.take i.size (RelDs.drop fd.offset hr)⟩
    · have h1 : i.size = 1 := hok.2.resolve_left ha
      have hlt : fd.offset < cs.length := by omega
      obtain ⟨v, hv', _, hr'⟩ := RelDs.get hr (i := fd.offset) (d := cs[fd.offset]) (by simp [hlt])
      have e1 : (List.take i.size (List.drop fd.offset vs.toList)).getD 0 Go.undef = v := by
        rw [h1]
        simp only [List.getD, List.getElem?_take, List.getElem?_drop, Nat.add_zero, hv']
        simp
      have e2 : cs.getD fd.offset .undef = cs[fd.offset] := by simp [List.getD, hlt]
      simp only [ha, if_false, mkV, e1, e2]
      exact hr'

theorem addOff_sound {k : Nat} {d : DV} {xv : Value} (h : RelD w W objs L d xv) (hok : (addOffSem k d).ok) :
    (addOffSem k d).put = none ∧ ∃ b o, xv = .pointer (some ⟨b, o, none⟩) ∧ RelD w W objs L (addOffSem k d).val (.pointer (some ⟨b, o + k, none⟩)) := by
  cases d with
  | ptr r off =>
    simp only [RelD] at h
    obtain ⟨hc, rfl⟩ := h
    exact ⟨rfl, _, _, rfl, by simp only [addOffSem, RelD]; exact ⟨hc, trivial⟩⟩
  | tptr rows i off =>
    simp only [RelD] at h
    obtain ⟨b, o, sz, rfl, rest⟩ := h
    exact ⟨rfl, _, _, rfl, by simp only [addOffSem, RelD]; exact ⟨b, o, sz, by rw [Nat.add_assoc], rest⟩⟩
  | bptr cs off =>
    simp only [RelD] at h
    obtain ⟨b, o, rfl, rest⟩ := h
    exact ⟨rfl, _, _, rfl, by simp only [addOffSem, RelD]; exact ⟨b, o, by rw [Nat.add_assoc], rest⟩⟩
  | aptr r ver i off =>
    simp only [RelD] at h
    obtain ⟨⟨b, o, rfl⟩, ver', e, sz, rows, ho, hle, hx⟩ := h
    refine ⟨rfl, _, _, rfl, ?_⟩
    simp only [addOffSem, RelD]
    refine ⟨⟨_, _, rfl⟩, ver', e, sz, rows, ho, hle, fun hv => ?_⟩
    obtain ⟨g, hg, hp, h0, h1⟩ := hx hv
    simp only [Value.pointer.injEq, Option.some.injEq, Addr.mk.injEq, and_true] at hp
    exact ⟨g, hg, by rw [hp.1, hp.2, Nat.add_assoc], h0, h1⟩
  | v t =>
    cases t with
    | box cs =>
      simp only [RelD, RelT] at h
      obtain ⟨b, o, rfl, rest⟩ := h
      exact ⟨rfl, _, _, rfl, by simp only [addOffSem, RelD]; exact ⟨b, o, rfl, rest⟩⟩
    | _ => exact hok.elim
  | _ => exact hok.elim

theorem nilCheck_sound {d : DV} {xv : Value} (h : RelD w W objs L d xv) (hok : (nilCheckSem d).ok) :
    (nilCheckSem d).put = none ∧ (nilCheckSem d).val = d ∧ ((∃ p, xv = .pointer (some p)) ∨ ∃ f caps, xv = .func (.func f) #[] caps) := by
  cases d with
  | ptr r off => simp only [RelD] at h; obtain ⟨_, rfl⟩ := h; exact ⟨rfl, rfl, .inl ⟨_, rfl⟩⟩
  | tptr rows i off => simp only [RelD] at h; obtain ⟨b, o, sz, rfl, _⟩ := h; exact ⟨rfl, rfl, .inl ⟨_, rfl⟩⟩
  | bptr cs off => simp only [RelD] at h; obtain ⟨b, o, rfl, _⟩ := h; exact ⟨rfl, rfl, .inl ⟨_, rfl⟩⟩
  | aptr r ver i off => simp only [RelD] at h; obtain ⟨⟨b, o, rfl⟩, _⟩ := h; exact ⟨rfl, rfl, .inl ⟨_, rfl⟩⟩
  | v t =>
    cases t with
    | box cs => simp only [RelD, RelT] at h; obtain ⟨b, o, rfl, _⟩ := h; exact ⟨rfl, rfl, .inl ⟨_, rfl⟩⟩
    | fn f caps =>
      cases f with
      | func f => simp only [RelD, RelT] at h; obtain ⟨vs, rfl, _⟩ := h; exact ⟨rfl, rfl, .inr ⟨_, _, rfl⟩⟩
      | _ => exact hok.elim
    | _ => exact hok.elim
  | _ => exact hok.elim

theorem idx_sound {t e : TypeId} {i : TypeInfo} (hO : RelO base W M w0 objs w L) (ht : P.underlying t = some (.slice e)) (hi : P.info? e = some i) {d d2 : DV} {xv yv : Value} (h : RelD w W objs L d xv) (h2 : RelD w W objs L d2 yv) (hok : (idxSem i.size objs d d2).ok) :
    (idxSem i.size objs d d2).put = none ∧ ∃ v, (Instr.indexAt t xv yv).run P w = .ok v w ∧ RelD w W objs L (idxSem i.size objs d d2).val v := by
  have hrun : ∀ (b o n c : Nat) (k : IntKind) (j : Int), 0 ≤ j → j < n → (Instr.indexAt t (.slice (some ⟨b, o, none⟩) n c) (.int k j)).run P w = .ok (.pointer (some ⟨b, o + j.toNat * i.size, none⟩)) w := by
    intro b o n c k j h0 h1
    simp [Instr.indexAt, asIntOf, run_underlying ht, h0, h1, run_sizeOf hi, add_off]
  unfold idxSem at hok ⊢
  split at hok
  · rename_i rows k j
    simp only at hok ⊢
    obtain ⟨h0, h1, hsz⟩ := hok
    simp only [RelD, RelT] at h h2
    subst h2
    rcases h with ⟨rfl, _⟩ | ⟨b, o, cap, sz, rfl, hb, hn, hc, hr⟩
    · simp at h1; omega
    · have hrow := (RelRows.row hr (rowAt_get h0 h1)).1
      have hsz' : sz = i.size := by omega
      subst hsz'
      refine ⟨trivial, _, hrun b o _ _ k j h0 h1, ?_⟩
      simp only [RelD]
      exact ⟨b, o, _, by rw [Nat.add_zero], hb, hn, hr, h0, h1⟩
  · rename_i r ver k j
    cases hc : objs r with
    | none => simp [hc, bad] at hok
    | some ob =>
      cases ob with
      | box cs => simp [hc, bad] at hok
      | arr ver' e' sz' rows =>
        simp only [hc] at hok ⊢
        obtain ⟨rfl, rfl, h0, h1⟩ := hok
        simp only [RelD, RelT] at h h2
        subst h2
        obtain ⟨_, ver2, e2, sz2, rows2, ho2, _, hv⟩ := h
        rw [hc] at ho2
        cases ho2
        have hv := hv rfl
        subst hv
        have hob := hO.ob r _ hc
        obtain ⟨hsz, hrows, hm, hal⟩ := hob
        rcases hal with ⟨rfl, _⟩ | ⟨g', cap, cur, hv', hp, hh, hle, hcap, hcur, hrel⟩
        · simp at h1; omega
        · refine ⟨trivial, _, by rw [hv']; exact hrun g' 0 _ _ k j h0 h1, ?_⟩
          simp only [RelD]
          exact ⟨⟨_, _, rfl⟩, ver, e', _, rows, hc, Nat.le_refl _, fun _ => ⟨g', by simp [hv', capBlock, Nat.pos_iff_ne_zero.1 hp], by simp, h0, h1⟩⟩
  · exact hok.elim

theorem arrAddr_sound {t e : TypeId} {i : TypeInfo} {n : Nat} (ht : P.underlying t = some (.array n e)) (hi : P.info? e = some i) {d d2 : DV} {xv yv : Value} (h : RelD w W objs L d xv) (h2 : RelD w W objs L d2 yv) (hok : (arrAddrSem n i.size d d2).ok) :
    (arrAddrSem n i.size d d2).put = none ∧ ∃ v, (Instr.indexAt t xv yv).run P w = .ok v w ∧ RelD w W objs L (arrAddrSem n i.size d d2).val v := by
  have hrun : ∀ (b o : Nat) (k : IntKind) (j : Int), 0 ≤ j → j < n → (Instr.indexAt t (.pointer (some ⟨b, o, none⟩)) (.int k j)).run P w = .ok (.pointer (some ⟨b, o + j.toNat * i.size, none⟩)) w := by
    intro b o k j h0 h1
    by_cases hn : n ≤ 1 <;> simp [Instr.indexAt, asIntOf, run_underlying ht, h0, h1, run_sizeOf hi, add_off, Instr.sureAddr, hn]
  unfold arrAddrSem at hok ⊢
  split at hok
  · rename_i r off k j
    simp only [RelD, RelT] at h h2
    obtain ⟨hc, rfl⟩ := h
    subst h2
    exact ⟨rfl, _, hrun _ _ k j hok.1 hok.2, by simp only [RelD]; exact ⟨hc, trivial⟩⟩
  · rename_i rows q off k j
    simp only [RelD, RelT] at h h2
    obtain ⟨b, o, sz, rfl, rest⟩ := h
    subst h2
    exact ⟨rfl, _, hrun _ _ k j hok.1 hok.2, by simp only [RelD]; exact ⟨b, o, sz, by rw [Nat.add_assoc], rest⟩⟩
  · rename_i cs off k j
    simp only [RelD, RelT] at h h2
    obtain ⟨b, o, rfl, rest⟩ := h
    subst h2
    exact ⟨rfl, _, hrun _ _ k j hok.1 hok.2, by simp only [RelD]; exact ⟨b, o, by rw [Nat.add_assoc], rest⟩⟩
  · rename_i r ver q off k j
    simp only [RelD, RelT] at h h2
    obtain ⟨⟨b, o, rfl⟩, ver', e, sz, rows, ho, hle, hx⟩ := h
    subst h2
    refine ⟨rfl, _, hrun _ _ k j hok.1 hok.2, ?_⟩
    simp only [RelD]
    refine ⟨⟨_, _, rfl⟩, ver', e, sz, rows, ho, hle, fun hv => ?_⟩
    obtain ⟨g, hg, hp, h0, h1⟩ := hx hv
    simp only [Value.pointer.injEq, Option.some.injEq, Addr.mk.injEq, and_true] at hp
    exact ⟨g, hg, by rw [hp.1, hp.2, Nat.add_assoc], h0, h1⟩
  · exact hok.elim
theorem len_sound {x : Operand} {t e : TypeId} (hO : RelO base W M w0 objs w L) (ho : o.op = .call { callee := .builtin .len, args := #[x], argTypes := #[t] }) (ht : P.underlying t = some (.slice e)) {d : DV} (h : RelD w W objs L d (a.eval x)) (hok : (lenSem objs d).ok) :
    OpRun P base W M w0 objs L w a o (lenSem objs d) := by
  have hsl : ∀ (p : Option Addr) (n c : Nat), a.eval x = .slice p n c → (execOp a.eval o).run P w = .ok (.value (.int .i64 n)) w := by
    rintro p n c hx
    simp [execOp, ho, resolve, invoke, builtin, hx, Builtin.len_, run_underlying ht, goInt]
  cases d with
  | v t' =>
    cases t' with
    | sl rows =>
      simp only [RelD, RelT] at h
      rcases h with ⟨rfl, p, c, hx⟩ | ⟨b, oo, cap, sz, hx, _⟩
      · exact OpRun.int hO rfl rfl (hsl _ _ _ hx)
      · exact OpRun.int hO rfl rfl (hsl _ _ _ hx)
    | _ => exact hok.elim
  | nil0 =>
    simp only [RelD] at h
    obtain ⟨p, hx⟩ := h
    exact OpRun.int hO rfl rfl (hsl _ _ _ hx)
  | aref r ver =>
    simp only [RelD] at h
    obtain ⟨_, ver', e', sz, rows, hc, _, hv⟩ := h
    simp only [lenSem, hc] at hok ⊢
    have hv := hv hok
    have hob := hO.ob r _ hc
    obtain ⟨hsz, hrows, hm, hal⟩ := hob
    rcases hal with ⟨rfl, p, hp⟩ | ⟨g', cap, cur, hv', hp, hh, hle, hcap, hcur, hrel⟩
    · exact OpRun.int hO rfl rfl (hsl _ _ _ (hv.trans hp))
    · exact OpRun.int hO rfl rfl (hsl _ _ _ (hv.trans hv'))
  | _ => exact hok.elim

theorem lenS_sound {x : Operand} {t : TypeId} (hO : RelO base W M w0 objs w L) (ho : o.op = .call { callee := .builtin .len, args := #[x], argTypes := #[t] }) (ht : P.underlying t = some .string) {d : DV} (h : RelD w W objs L d (a.eval x)) (hok : (lenSSem d).ok) :
    OpRun P base W M w0 objs L w a o (lenSSem d) := by
  unfold lenSSem at hok ⊢
  split at hok
  · simp only [RelD, RelT] at h
    refine OpRun.int hO rfl rfl ?_
    simp [execOp, ho, resolve, invoke, builtin, h, Builtin.len_, run_underlying ht, goInt]
  · exact hok.elim

theorem minmax_sound {x y : Operand} {ts : Array TypeId} (m : Bool) (hO : RelO base W M w0 objs w L) (ho : o.op = .call { callee := .builtin (if m then .max else .min), args := #[x, y], argTypes := ts }) {d1 d2 : DV} (h1 : RelD w W objs L d1 (a.eval x)) (h2 : RelD w W objs L d2 (a.eval y)) (hok : (minmaxSem m d1 d2).ok) :
    OpRun P base W M w0 objs L w a o (minmaxSem m d1 d2) := by
  unfold minmaxSem at hok ⊢
  split at hok
  · rename_i k p k' q
    simp only [RelD, RelT] at h1 h2
    have hok' : k = k' := hok
    subst hok'
    cases m
    · have e : (if q < p then q else p) = min p q := by omega
      refine OpRun.int hO rfl rfl ?_
      simp [execOp, ho, resolve, invoke, builtin, h1, h2, run_min_int2, e]
    · have e : (if q > p then q else p) = max p q := by omega
      refine OpRun.int hO rfl rfl ?_
      simp only [gt_iff_lt] at e
      simp [execOp, ho, resolve, invoke, builtin, h1, h2, run_max_int2, e]
  · exact hok.elim

theorem intOf_rel {d : DV} {x : Value} {n : Int} (h : RelD w W objs L d x) (hi : intOf? d = some n) : ∃ k, x = .int k n := by
  unfold intOf? at hi
  split at hi
  · simp only [Option.some.injEq] at hi
    subst hi
    simp only [RelD, RelT] at h
    exact ⟨_, h⟩
  · cases hi

theorem slice_sound {t e : TypeId} {i : TypeInfo} (ht : P.underlying t = some (.slice e)) (hi : P.info? e = some i) {d : DV} {xv : Value} (h : RelD w W objs L d xv) {lo hi' : Option DV} {lv hv : Option Value}
    (hlo : (lo = none ∧ lv = none) ∨ ∃ dl vl, lo = some dl ∧ lv = some vl ∧ RelD w W objs L dl vl) (hhi : (hi' = none ∧ hv = none) ∨ ∃ dl vl, hi' = some dl ∧ hv = some vl ∧ RelD w W objs L dl vl)
    (hok : (sliceSem i.size lo hi' d).ok) :
    (sliceSem i.size lo hi' d).put = none ∧ ∃ v, (Instr.sliceAt t xv lv hv none).run P w = .ok v w ∧ RelD w W objs L (sliceSem i.size lo hi' d).val v := by
  have hrun : ∀ (p : Option Addr) (n c : Nat) (l hh : Int), 0 ≤ l → l ≤ hh → hh ≤ n → n ≤ c → (lv = none ∧ l = 0 ∨ ∃ k, lv = some (.int k l)) → (hv = none ∧ hh = n ∨ ∃ k, hv = some (.int k hh)) →
      (Instr.sliceAt t (.slice p n c) lv hv none).run P w = .ok (.slice (if c = l.toNat then p else p.map (·.add (l.toNat * i.size))) (hh.toNat - l.toNat) (c - l.toNat)) w := by
    intro p n c l hh h0 h1 h2 h3 hl hh'
    have b2 : hh ≤ c := by omega
    have b3 : 0 ≤ hh := by omega
    have b4 : l ≤ (hh.toNat : Int) := by omega
    have b5 : ((hh.toNat : Nat) : Int) = hh := by omega
    rcases hl with ⟨rfl, rfl⟩ | ⟨k, rfl⟩ <;> rcases hh' with ⟨rfl, rfl⟩ | ⟨k', rfl⟩
    · simp [Instr.sliceAt, Instr.slice, run_underlying ht, Instr.sliceBounds, run_sizeOf hi]
    · simp [Instr.sliceAt, Instr.slice, run_underlying ht, Instr.sliceBounds, run_sizeOf hi, Instr.sliceBound, asIntOf, b2, b3]
    · have b6 : l ≤ (n : Int) := h1
      simp [Instr.sliceAt, Instr.slice, run_underlying ht, Instr.sliceBounds, run_sizeOf hi, Instr.sliceBound, asIntOf, b6, h0]
    · simp [Instr.sliceAt, Instr.slice, run_underlying ht, Instr.sliceBounds, run_sizeOf hi, Instr.sliceBound, asIntOf, b2, b3, h0, b5, h1]
  have lval : ∀ {l : Int}, loOf lo = some l → (lv = none ∧ l = 0 ∨ ∃ k, lv = some (.int k l)) := by
    intro l hl
    rcases hlo with ⟨rfl, rfl⟩ | ⟨dl, vl, rfl, rfl, hr⟩
    · simp only [loOf, Option.some.injEq] at hl; exact .inl ⟨rfl, hl.symm⟩
    · obtain ⟨k, rfl⟩ := intOf_rel hr hl; exact .inr ⟨k, rfl⟩
  have hval : ∀ {n : Int} {l : Int}, hiOf n hi' = some l → (hv = none ∧ l = n ∨ ∃ k, hv = some (.int k l)) := by
    intro n l hl
    rcases hhi with ⟨rfl, rfl⟩ | ⟨dl, vl, rfl, rfl, hr⟩
    · simp only [hiOf, Option.some.injEq] at hl; exact .inl ⟨rfl, hl.symm⟩
    · obtain ⟨k, rfl⟩ := intOf_rel hr hl; exact .inr ⟨k, rfl⟩
  cases d with
  | v t' =>
    cases t' with
    | sl rows =>
      simp only [sliceSem] at hok ⊢
      cases el : loOf lo with
      | none => simp [el, bad] at hok
      | some l =>
        cases eh : hiOf rows.length hi' with
        | none => simp [el, eh, bad] at hok
        | some hh =>
          simp only [el, eh] at hok ⊢
          obtain ⟨h0, h1, h2, hsz⟩ := hok
          refine ⟨trivial, ?_⟩
          simp only [RelD, RelT] at h
          have hlen : ((rows.take hh.toNat).drop l.toNat).length = hh.toNat - l.toNat := by simp; omega
          rcases h with ⟨rfl, p, c, rfl⟩ | ⟨b, oo, cap, sz, rfl, hb, hn, hc, hr⟩
          · have z1 : hh = 0 := by simp at h2; omega
            have z2 : l = 0 := by omega
            subst z1 z2
            refine ⟨_, hrun p 0 c 0 0 h0 h1 (by omega) (by omega) (lval el) (hval eh), ?_⟩
            simp only [RelD, RelT]
            exact .inl ⟨by simp, _, _, rfl⟩
          · refine ⟨_, hrun _ _ cap l hh h0 h1 h2 hc (lval el) (hval eh), ?_⟩
            simp only [RelD, RelT]
            by_cases hce : cap = l.toNat
            · refine .inl ⟨?_, _, _, by rw [show hh.toNat - l.toNat = 0 by omega]⟩
              apply List.eq_nil_of_length_eq_zero
              omega
            · refine .inr ⟨b, oo + l.toNat * i.size, cap - l.toNat, i.size, ?_, hb, hn, by omega, ?_⟩
              · rw [hlen, if_neg hce]
                simp [add_off]
              · refine RelRows.of_rows _ _ fun j r hj => ?_
                rw [List.getElem?_drop, List.getElem?_take] at hj
                split at hj
                · have hrow := RelRows.row hr hj
                  have hrl := hsz r (List.mem_of_getElem? hj)
                  have : sz = i.size := by omega
                  subst this
                  refine ⟨hrl, ?_⟩
                  have e2 : oo + l.toNat * i.size + j * i.size = oo + (l.toNat + j) * i.size := by rw [Nat.add_mul]; omega
                  rw [e2]
                  exact hrow.2
                · cases hj
    | _ => exact hok.elim
  | nil0 =>
    simp only [sliceSem] at hok ⊢
    cases el : loOf lo with
    | none => simp [el, bad] at hok
    | some l =>
      cases eh : hiOf 0 hi' with
      | none => simp [el, eh, bad] at hok
      | some hh =>
        simp only [el, eh] at hok ⊢
        obtain ⟨rfl, rfl⟩ := hok
        refine ⟨trivial, ?_⟩
        simp only [RelD] at h
        obtain ⟨p, rfl⟩ := h
        refine ⟨_, hrun p 0 0 0 0 (Int.le_refl _) (Int.le_refl _) (by omega) (Nat.le_refl _) (lval el) (hval eh), ?_⟩
        simp [RelD]
  | _ => exact hok.elim
end
end Go.DM
