/- The D-machine, part H: each operation does in the model what the machine says. Conditions: none. -/
import Derived.Test.YtljcdomdjgolkaaGreatDoorXab
import Derived.Laws.Shifts
namespace Go.DM
open Go.RowKit
set_option linter.unusedSimpArgs false
set_option linter.unusedVariables false
set_option linter.unusedSectionVars false
variable [Laid]

/-- What an operation's run leaves. -/
def OpRun (P : Program) (base : Nat) (W M : Nat → Prop) (w0 : World) (objs : Obs) (L : Loc) (w : World) (a : Act) (o : Oper) (e : Eff) : Prop :=
  ∃ nx v w' L', (execOp a.eval o).run P w = .ok nx w' ∧ (nx = .value v ∨ (nx = .skip ∧ v = Go.undef)) ∧
    RelO base W M w0 (putO objs e.put) w' L' ∧ Adv W objs L w (putO objs e.put) L' w' ∧ RelD w' W (putO objs e.put) L' e.val v

section
variable {P : Program} {base : Nat} {W M : Nat → Prop} {w0 : World} {objs : Obs} {L : Loc} {w : World} {a : Act} {o : Oper}

theorem OpRun.quiet (hO : RelO base W M w0 objs w L) {e : Eff} (hput : e.put = none) {v : Value} (hrun : (execOp a.eval o).run P w = .ok (.value v) w) (hv : RelD w W objs L e.val v) : OpRun P base W M w0 objs L w a o e :=
  ⟨.value v, v, w, L, hrun, .inl rfl, by rw [hput]; exact hO, by rw [hput]; exact Adv.refl_of_keeps (Keeps.refl _ _), by rw [hput]; exact hv⟩

theorem OpRun.int (hO : RelO base W M w0 objs w L) {e : Eff} (hput : e.put = none) {k : IntKind} {n : Int} (hval : e.val = .v (.int k n)) (hrun : (execOp a.eval o).run P w = .ok (.value (.int k n)) w) : OpRun P base W M w0 objs L w a o e :=
  OpRun.quiet hO hput hrun (by rw [hval]; simp [RelD, RelT])
theorem OpRun.bool (hO : RelO base W M w0 objs w L) {e : Eff} (hput : e.put = none) {b : Bool} (hval : e.val = .v (.bool b)) (hrun : (execOp a.eval o).run P w = .ok (.value (.bool b)) w) : OpRun P base W M w0 objs L w a o e :=
  OpRun.quiet hO hput hrun (by rw [hval]; simp [RelD, RelT])

theorem bin_sound (hO : RelO base W M w0 objs w L) {op : BinOp} {t : TypeId} {x y : Operand} {yt : TypeId} (ho : o.op = .binOp op t x y yt) {d1 d2 : DV} (h1 : RelD w W objs L d1 (a.eval x)) (h2 : RelD w W objs L d2 (a.eval y)) (hok : (binSem op d1 d2).ok) :
    OpRun P base W M w0 objs L w a o (binSem op d1 d2) := by
  have key : ∀ {k k' : IntKind} {p q : Int}, d1 = .v (.int k p) → d2 = .v (.int k' q) → OpRun P base W M w0 objs L w a o (binSem op d1 d2) := by
    rintro k k' p q rfl rfl
    simp only [RelD, RelT] at h1 h2
    have hex : ∀ (v : Value), (eqGuard op t x y (.int k p) (.int k' q)).run P w = .ok () w → (binOp op t (.int k p) (.int k' q)).run P w = .ok v w → (execOp a.eval o).run P w = .ok (.value v) w := by
      intro v e1 e2
      simp [execOp, ho, h1, h2, e1, e2]
    have hg : (eqGuard op t x y (.int k p) (.int k' q)).run P w = .ok () w := by cases op <;> simp [eqGuard]
    cases op <;> simp only [binSem, bad] at hok ⊢
    all_goals first
      | exact hok.elim
      | (subst hok; first
          | (refine OpRun.int hO rfl rfl (hex _ hg ?_); simp [binOp, Op.intArith]; done)
          | (refine OpRun.int hO rfl rfl (hex _ hg ?_); simp [binOp, Op.intBits]; done)
          | (refine OpRun.bool hO rfl rfl (hex _ hg ?_); simp [binOp, Op.intCmp]; done)
          | (refine OpRun.bool hO rfl rfl (hex _ hg ?_); simp [binOp, Op.intCmp]; rfl))
      | (refine OpRun.int hO rfl rfl (hex _ hg ?_); simp [binOp, shift_shl_any _ _ _ _ hok, shift_shr_any _ _ _ _ hok]; done)
      | (obtain ⟨rfl, hq⟩ := hok; exact OpRun.int hO rfl rfl (hex _ hg (by simp [binOp, Op.intDiv, hq])))
  unfold binSem at hok
  split at hok
  · exact key rfl rfl
  · exact hok.elim

theorem aggCells_rel {d : DV} {x : Value} {cs : List DV} (h : RelD w W objs L d x) (hc : aggCells d = some cs) : ∃ vs : Array Value, x = .agg vs ∧ RelDs w W objs L cs vs.toList := by
  cases d with
  | v t =>
    cases t with
    | agg ts =>
      simp only [aggCells, Option.some.injEq] at hc
      subst hc
      simp only [RelD, RelT] at h
      obtain ⟨vs, rfl, hr⟩ := h
      exact ⟨vs, rfl, RelDs.of_relL hr⟩
    | _ => simp [aggCells] at hc
  | agg ds =>
    simp only [aggCells, Option.some.injEq] at hc
    subst hc
    simp only [RelD] at h
    exact h
  | _ => simp [aggCells] at hc

theorem field_sound {s : TypeId} {xv : Value} {f : Nat} {fs : Array Field} {fd : Field} {i : TypeInfo} {desc : TypeDesc} (hs : P.underlying s = some (.struct fs)) (hf : fs[f]? = some fd) (hi : P.info? fd.type = some i) (hd : P.underlying fd.type = some desc)
    {d : DV} (h : RelD w W objs L d xv) (hok : (fieldSem fd.offset i.size (aggDesc desc) d).ok) :
    (fieldSem fd.offset i.size (aggDesc desc) d).put = none ∧ ∃ v, (Instr.field s xv f).run P w = .ok v w ∧ RelD w W objs L (fieldSem fd.offset i.size (aggDesc desc) d).val v := by
  unfold fieldSem at hok ⊢
  cases hc : aggCells d with
  | none => simp [hc, bad] at hok
  | some cs =>
    simp only [hc] at hok ⊢
    obtain ⟨vs, rfl, hr⟩ := aggCells_rel h hc
    have hl := RelDs.length hr
    have hp := run_part (P := P) w hd hi (xs := vs.toList) (off := fd.offset) hok.2 (by omega)
    simp only [Array.toArray_toList] at hp
    refine ⟨trivial, _, by simp [Instr.field, run_underlying hs, hf, asAgg, hp]; rfl, ?_⟩
    by_cases ha : aggDesc desc = true
    · simp only [ha, if_true, mkV, RelD]
      exact ⟨_, rfl, by simpa using RelDs.take i.size (RelDs.drop fd.offset hr)⟩
    · have h1 : i.size = 1 := hok.2.resolve_left ha
      have hlt : fd.offset < cs.length := by omega
      obtain ⟨v, hv', _, hr'⟩ := RelDs.get hr (i := fd.offset) (d := cs[fd.offset]) (by simp [hlt])
      have e1 : (List.take i.size (List.drop fd.offset vs.toList)).getD 0 Go.undef = v := by
        rw [h1]
        simp only [List.getD, List.getElem?_take, List.getElem?_drop, Nat.add_zero, hv']
        simp
      have e2 : cs.getD fd.offset .undef = cs[fd.offset] := by simp [List.getD, hlt]
      simp only [ha, if_false, mkV, e1, e2]
      exact hr'

theorem addOff_sound {k : Nat} {d : DV} {xv : Value} (h : RelD w W objs L d xv) (hok : (addOffSem k d).ok) :
    (addOffSem k d).put = none ∧ ∃ b o, xv = .pointer (some ⟨b, o, none⟩) ∧ RelD w W objs L (addOffSem k d).val (.pointer (some ⟨b, o + k, none⟩)) := by
  cases d with
  | ptr r off =>
    simp only [RelD] at h
    obtain ⟨hc, rfl⟩ := h
    exact ⟨rfl, _, _, rfl, by simp only [addOffSem, RelD]; exact ⟨hc, trivial⟩⟩
  | tptr rows i off =>
    simp only [RelD] at h
    obtain ⟨b, o, sz, rfl, rest⟩ := h
    exact ⟨rfl, _, _, rfl, by simp only [addOffSem, RelD]; exact ⟨b, o, sz, by rw [Nat.add_assoc], rest⟩⟩
  | bptr cs off =>
    simp only [RelD] at h
    obtain ⟨b, o, rfl, rest⟩ := h
    exact ⟨rfl, _, _, rfl, by simp only [addOffSem, RelD]; exact ⟨b, o, by rw [Nat.add_assoc], rest⟩⟩
  | aptr r ver i off =>
    simp only [RelD] at h
    obtain ⟨⟨b, o, rfl⟩, ver', e, sz, rows, ho, hle, hx⟩ := h
    refine ⟨rfl, _, _, rfl, ?_⟩
    simp only [addOffSem, RelD]
    refine ⟨⟨_, _, rfl⟩, ver', e, sz, rows, ho, hle, fun hv => ?_⟩
    obtain ⟨g, hg, hp, h0, h1⟩ := hx hv
    simp only [Value.pointer.injEq, Option.some.injEq, Addr.mk.injEq, and_true] at hp
    exact ⟨g, hg, by rw [hp.1, hp.2, Nat.add_assoc], h0, h1⟩
  | v t =>
    cases t with
    | box cs =>
      simp only [RelD, RelT] at h
      obtain ⟨b, o, rfl, rest⟩ := h
      exact ⟨rfl, _, _, rfl, by simp only [addOffSem, RelD]; exact ⟨b, o, rfl, rest⟩⟩
    | _ => exact hok.elim
  | _ => exact hok.elim

theorem nilCheck_sound {d : DV} {xv : Value} (h : RelD w W objs L d xv) (hok : (nilCheckSem d).ok) :
    (nilCheckSem d).put = none ∧ (nilCheckSem d).val = d ∧ ((∃ p, xv = .pointer (some p)) ∨ ∃ f caps, xv = .func (.func f) #[] caps) := by
  cases d with
  | ptr r off => simp only [RelD] at h; obtain ⟨_, rfl⟩ := h; exact ⟨rfl, rfl, .inl ⟨_, rfl⟩⟩
  | tptr rows i off => simp only [RelD] at h; obtain ⟨b, o, sz, rfl, _⟩ := h; exact ⟨rfl, rfl, .inl ⟨_, rfl⟩⟩
  | bptr cs off => simp only [RelD] at h; obtain ⟨b, o, rfl, _⟩ := h; exact ⟨rfl, rfl, .inl ⟨_, rfl⟩⟩
  | aptr r ver i off => simp only [RelD] at h; obtain ⟨⟨b, o, rfl⟩, _⟩ := h; exact ⟨rfl, rfl, .inl ⟨_, rfl⟩⟩
  | v t =>
    cases t with
    | box cs => simp only [RelD, RelT] at h; obtain ⟨b, o, rfl, _⟩ := h; exact ⟨rfl, rfl, .inl ⟨_, rfl⟩⟩
    | fn f caps =>
      cases f with
      | func f => simp only [RelD, RelT] at h; obtain ⟨vs, rfl, _⟩ := h; exact ⟨rfl, rfl, .inr ⟨_, _, rfl⟩⟩
      | _ => exact hok.elim
    | _ => exact hok.elim
  | _ => exact hok.elim

theorem idx_sound {t e : TypeId} {i : TypeInfo} (hO : RelO base W M w0 objs w L) (ht : P.underlying t = some (.slice e)) (hi : P.info? e = some i) {d d2 : DV} {xv yv : Value} (h : RelD w W objs L d xv) (h2 : RelD w W objs L d2 yv) (hok : (idxSem i.size objs d d2).ok) :
    (idxSem i.size objs d d2).put = none ∧ ∃ v, (Instr.indexAt t xv yv).run P w = .ok v w ∧ RelD w W objs L (idxSem i.size objs d d2).val v := by
  have hrun : ∀ (b o n c : Nat) (k : IntKind) (j : Int), 0 ≤ j → j < n → (Instr.indexAt t (.slice (some ⟨b, o, none⟩) n c) (.int k j)).run P w = .ok (.pointer (some ⟨b, o + j.toNat * i.size, none⟩)) w := by
    intro b o n c k j h0 h1
    simp [Instr.indexAt, asIntOf, run_underlying ht, h0, h1, run_sizeOf hi, add_off]
  unfold idxSem at hok ⊢
  split at hok
  · rename_i rows k j
    simp only at hok ⊢
    obtain ⟨h0, h1, hsz⟩ := hok
    simp only [RelD, RelT] at h h2
    subst h2
    rcases h with ⟨rfl, _⟩ | ⟨b, o, cap, sz, rfl, hb, hn, hc, hr⟩
    · simp at h1; omega
    · have hrow := (RelRows.row hr (rowAt_get h0 h1)).1
      have hsz' : sz = i.size := by omega
      subst hsz'
      refine ⟨trivial, _, hrun b o _ _ k j h0 h1, ?_⟩
      simp only [RelD]
      exact ⟨b, o, _, by rw [Nat.add_zero], hb, hn, hr, h0, h1⟩
  · rename_i r ver k j
    cases hc : objs r with
    | none => simp [hc, bad] at hok
    | some ob =>
      cases ob with
      | box cs => simp [hc, bad] at hok
      | map _ _ _ _ => simp [hc, bad] at hok
      | iter _ _ _ _ => simp [hc, bad] at hok
      | arr ver' e' sz' rows =>
        simp only [hc] at hok ⊢
        obtain ⟨rfl, rfl, h0, h1⟩ := hok
        simp only [RelD, RelT] at h h2
        subst h2
        obtain ⟨_, ver2, e2, sz2, rows2, ho2, _, hv⟩ := h
        rw [hc] at ho2
        cases ho2
        have hv := hv rfl
        subst hv
        have hob := hO.ob r _ hc
        obtain ⟨hsz, hrows, hm, hal⟩ := hob
        rcases hal with ⟨rfl, _⟩ | ⟨g', cap, cur, hv', hp, hh, hle, hcap, hcur, hrel⟩
        · simp at h1; omega
        · refine ⟨trivial, _, by rw [hv']; exact hrun g' 0 _ _ k j h0 h1, ?_⟩
          simp only [RelD]
          exact ⟨⟨_, _, rfl⟩, ver, e', _, rows, hc, Nat.le_refl _, fun _ => ⟨g', by simp [hv', capBlock, Nat.pos_iff_ne_zero.1 hp], by simp, h0, h1⟩⟩
  · rename_i r ver lo n k j
    cases hc : objs r with
    | none => simp [hc, bad] at hok
    | some ob =>
      cases ob with
      | box cs => simp [hc, bad] at hok
      | map _ _ _ _ => simp [hc, bad] at hok
      | iter _ _ _ _ => simp [hc, bad] at hok
      | arr ver' e' sz' rows =>
        simp only [hc] at hok ⊢
        obtain ⟨rfl, rfl, h0, h1⟩ := hok
        simp only [RelD, RelT] at h h2
        subst h2
        obtain ⟨_, ver2, e2, sz2, rows2, ho2, _, hv⟩ := h
        rw [hc] at ho2
        cases ho2
        have hv := hv rfl
        rcases asl_rows hO hc hv with ⟨rfl, _⟩ | ⟨g, c, hcb, rfl, hnc, _⟩
        · simp at h1; omega
        · refine ⟨trivial, _, hrun g _ _ _ k j h0 h1, ?_⟩
          have hl := hv.1
          have e1 : ((lo : Int) + j).toNat = lo + j.toNat := by omega
          simp only [RelD]
          exact ⟨⟨_, _, rfl⟩, ver, e', _, rows, hc, Nat.le_refl _, fun _ => ⟨g, hcb, by rw [e1, Nat.add_mul]; simp, by omega, by omega⟩⟩
  · rename_i r n k j
    simp only [RelD, RelT] at h h2
    subst h2
    obtain ⟨hc, rfl⟩ := h
    obtain ⟨h0, h1⟩ := hok
    refine ⟨rfl, _, hrun _ _ _ _ k j h0 h1, ?_⟩
    simp only [RelD]
    exact ⟨hc, by simp⟩
  · exact hok.elim

theorem arrAddr_sound {t e : TypeId} {i : TypeInfo} {n : Nat} (ht : P.underlying t = some (.array n e)) (hi : P.info? e = some i) {d d2 : DV} {xv yv : Value} (h : RelD w W objs L d xv) (h2 : RelD w W objs L d2 yv) (hok : (arrAddrSem n i.size d d2).ok) :
    (arrAddrSem n i.size d d2).put = none ∧ ∃ v, (Instr.indexAt t xv yv).run P w = .ok v w ∧ RelD w W objs L (arrAddrSem n i.size d d2).val v := by
  have hrun : ∀ (b o : Nat) (k : IntKind) (j : Int), 0 ≤ j → j < n → (Instr.indexAt t (.pointer (some ⟨b, o, none⟩)) (.int k j)).run P w = .ok (.pointer (some ⟨b, o + j.toNat * i.size, none⟩)) w := by
    intro b o k j h0 h1
    by_cases hn : n ≤ 1 <;> simp [Instr.indexAt, asIntOf, run_underlying ht, h0, h1, run_sizeOf hi, add_off, Instr.sureAddr, hn]
  unfold arrAddrSem at hok ⊢
  split at hok
  · rename_i r off k j
    simp only [RelD, RelT] at h h2
    obtain ⟨hc, rfl⟩ := h
    subst h2
    exact ⟨rfl, _, hrun _ _ k j hok.1 hok.2, by simp only [RelD]; exact ⟨hc, trivial⟩⟩
  · rename_i rows q off k j
    simp only [RelD, RelT] at h h2
    obtain ⟨b, o, sz, rfl, rest⟩ := h
    subst h2
    exact ⟨rfl, _, hrun _ _ k j hok.1 hok.2, by simp only [RelD]; exact ⟨b, o, sz, by rw [Nat.add_assoc], rest⟩⟩
  · rename_i cs off k j
    simp only [RelD, RelT] at h h2
    obtain ⟨b, o, rfl, rest⟩ := h
    subst h2
    exact ⟨rfl, _, hrun _ _ k j hok.1 hok.2, by simp only [RelD]; exact ⟨b, o, by rw [Nat.add_assoc], rest⟩⟩
  · rename_i cs k j
    simp only [RelD, RelT] at h h2
    obtain ⟨b, o, rfl, rest⟩ := h
    subst h2
    exact ⟨rfl, _, hrun _ _ k j hok.1 hok.2, by simp only [RelD]; exact ⟨b, o, rfl, rest⟩⟩
  · rename_i r ver q off k j
    simp only [RelD, RelT] at h h2
    obtain ⟨⟨b, o, rfl⟩, ver', e, sz, rows, ho, hle, hx⟩ := h
    subst h2
    refine ⟨rfl, _, hrun _ _ k j hok.1 hok.2, ?_⟩
    simp only [RelD]
    refine ⟨⟨_, _, rfl⟩, ver', e, sz, rows, ho, hle, fun hv => ?_⟩
    obtain ⟨g, hg, hp, h0, h1⟩ := hx hv
    simp only [Value.pointer.injEq, Option.some.injEq, Addr.mk.injEq, and_true] at hp
    exact ⟨g, hg, by rw [hp.1, hp.2, Nat.add_assoc], h0, h1⟩
  · exact hok.elim
theorem len_sound {x : Operand} {t e : TypeId} (hO : RelO base W M w0 objs w L) (ho : o.op = .call { callee := .builtin .len, args := #[x], argTypes := #[t] }) (ht : P.underlying t = some (.slice e)) {d : DV} (h : RelD w W objs L d (a.eval x)) (hok : (lenSem objs d).ok) :
    OpRun P base W M w0 objs L w a o (lenSem objs d) := by
  have hsl : ∀ (p : Option Addr) (n c : Nat), a.eval x = .slice p n c → (execOp a.eval o).run P w = .ok (.value (.int .i64 n)) w := by
    rintro p n c hx
    simp [execOp, ho, resolve, invoke, builtin, hx, Builtin.len_, run_underlying ht, goInt]
  cases d with
  | v t' =>
    cases t' with
    | sl rows =>
      simp only [RelD, RelT] at h
      rcases h with ⟨rfl, p, c, hx⟩ | ⟨b, oo, cap, sz, hx, _⟩
      · exact OpRun.int hO rfl rfl (hsl _ _ _ hx)
      · exact OpRun.int hO rfl rfl (hsl _ _ _ hx)
    | _ => exact hok.elim
  | nil0 =>
    simp only [RelD] at h
    obtain ⟨p, hx⟩ := h
    exact OpRun.int hO rfl rfl (hsl _ _ _ hx)
  | aref r ver =>
    simp only [RelD] at h
    obtain ⟨_, ver', e', sz, rows, hc, _, hv⟩ := h
    simp only [lenSem, hc] at hok ⊢
    have hv := hv hok
    have hob := hO.ob r _ hc
    obtain ⟨hsz, hrows, hm, hal⟩ := hob
    rcases hal with ⟨rfl, p, hp⟩ | ⟨g', cap, cur, hv', hp, hh, hle, hcap, hcur, hrel⟩
    · exact OpRun.int hO rfl rfl (hsl _ _ _ (hv.trans hp))
    · exact OpRun.int hO rfl rfl (hsl _ _ _ (hv.trans hv'))
  | asl r ver lo n =>
    simp only [RelD] at h
    obtain ⟨⟨p, c, hx⟩, _⟩ := h
    exact OpRun.int hO rfl rfl (hsl _ _ _ hx)
  | bsl r n =>
    simp only [RelD] at h
    obtain ⟨_, hx⟩ := h
    exact OpRun.int hO rfl rfl (hsl _ _ _ hx)
  | _ => exact hok.elim

theorem lenS_sound {x : Operand} {t : TypeId} (hO : RelO base W M w0 objs w L) (ho : o.op = .call { callee := .builtin .len, args := #[x], argTypes := #[t] }) (ht : P.underlying t = some .string) {d : DV} (h : RelD w W objs L d (a.eval x)) (hok : (lenSSem d).ok) :
    OpRun P base W M w0 objs L w a o (lenSSem d) := by
  unfold lenSSem at hok ⊢
  split at hok
  · simp only [RelD, RelT] at h
    refine OpRun.int hO rfl rfl ?_
    simp [execOp, ho, resolve, invoke, builtin, h, Builtin.len_, run_underlying ht, goInt]
  · exact hok.elim

theorem minmax_sound {x y : Operand} {ts : Array TypeId} (m : Bool) (hO : RelO base W M w0 objs w L) (ho : o.op = .call { callee := .builtin (if m then .max else .min), args := #[x, y], argTypes := ts }) {d1 d2 : DV} (h1 : RelD w W objs L d1 (a.eval x)) (h2 : RelD w W objs L d2 (a.eval y)) (hok : (minmaxSem m d1 d2).ok) :
    OpRun P base W M w0 objs L w a o (minmaxSem m d1 d2) := by
  unfold minmaxSem at hok ⊢
  split at hok
  · rename_i k p k' q
    simp only [RelD, RelT] at h1 h2
    have hok' : k = k' := hok
    subst hok'
    cases m
    · have e : (if q < p then q else p) = min p q := by omega
      refine OpRun.int hO rfl rfl ?_
      simp [execOp, ho, resolve, invoke, builtin, h1, h2, run_min_int2, e]
    · have e : (if q > p then q else p) = max p q := by omega
      refine OpRun.int hO rfl rfl ?_
      simp only [gt_iff_lt] at e
      simp [execOp, ho, resolve, invoke, builtin, h1, h2, run_max_int2, e]
  · exact hok.elim

theorem intOf_rel {d : DV} {x : Value} {n : Int} (h : RelD w W objs L d x) (hi : intOf? d = some n) : ∃ k, x = .int k n := by
  unfold intOf? at hi
  split at hi
  · simp only [Option.some.injEq] at hi
    subst hi
    simp only [RelD, RelT] at h
    exact ⟨_, h⟩
  · cases hi

theorem slice_sound (hO : RelO base W M w0 objs w L) {t e : TypeId} {i : TypeInfo} (ht : P.underlying t = some (.slice e)) (hi : P.info? e = some i) {d : DV} {xv : Value} (h : RelD w W objs L d xv) {lo hi' : Option DV} {lv hv : Option Value}
    (hlo : (lo = none ∧ lv = none) ∨ ∃ dl vl, lo = some dl ∧ lv = some vl ∧ RelD w W objs L dl vl) (hhi : (hi' = none ∧ hv = none) ∨ ∃ dl vl, hi' = some dl ∧ hv = some vl ∧ RelD w W objs L dl vl)
    (hok : (sliceSem i.size lo hi' objs d).ok) :
    (sliceSem i.size lo hi' objs d).put = none ∧ ∃ v, (Instr.sliceAt t xv lv hv none).run P w = .ok v w ∧ RelD w W objs L (sliceSem i.size lo hi' objs d).val v := by
  have hrun : ∀ (p : Option Addr) (n c : Nat) (l hh : Int), 0 ≤ l → l ≤ hh → hh ≤ n → n ≤ c → (lv = none ∧ l = 0 ∨ ∃ k, lv = some (.int k l)) → (hv = none ∧ hh = n ∨ ∃ k, hv = some (.int k hh)) →
      (Instr.sliceAt t (.slice p n c) lv hv none).run P w = .ok (.slice (if c = l.toNat then p else p.map (·.add (l.toNat * i.size))) (hh.toNat - l.toNat) (c - l.toNat)) w := by
    intro p n c l hh h0 h1 h2 h3 hl hh'
    have b2 : hh ≤ c := by omega
    have b3 : 0 ≤ hh := by omega
    have b4 : l ≤ (hh.toNat : Int) := by omega
    have b5 : ((hh.toNat : Nat) : Int) = hh := by omega
    rcases hl with ⟨rfl, rfl⟩ | ⟨k, rfl⟩ <;> rcases hh' with ⟨rfl, rfl⟩ | ⟨k', rfl⟩
    · simp [Instr.sliceAt, Instr.slice, run_underlying ht, Instr.sliceBounds, run_sizeOf hi]
    · simp [Instr.sliceAt, Instr.slice, run_underlying ht, Instr.sliceBounds, run_sizeOf hi, Instr.sliceBound, asIntOf, b2, b3]
    · have b6 : l ≤ (n : Int) := h1
      simp [Instr.sliceAt, Instr.slice, run_underlying ht, Instr.sliceBounds, run_sizeOf hi, Instr.sliceBound, asIntOf, b6, h0]
    · simp [Instr.sliceAt, Instr.slice, run_underlying ht, Instr.sliceBounds, run_sizeOf hi, Instr.sliceBound, asIntOf, b2, b3, h0, b5, h1]
  have lval : ∀ {l : Int}, loOf lo = some l → (lv = none ∧ l = 0 ∨ ∃ k, lv = some (.int k l)) := by
    intro l hl
    rcases hlo with ⟨rfl, rfl⟩ | ⟨dl, vl, rfl, rfl, hr⟩
    · simp only [loOf, Option.some.injEq] at hl; exact .inl ⟨rfl, hl.symm⟩
    · obtain ⟨k, rfl⟩ := intOf_rel hr hl; exact .inr ⟨k, rfl⟩
  have hval : ∀ {n : Int} {l : Int}, hiOf n hi' = some l → (hv = none ∧ l = n ∨ ∃ k, hv = some (.int k l)) := by
    intro n l hl
    rcases hhi with ⟨rfl, rfl⟩ | ⟨dl, vl, rfl, rfl, hr⟩
    · simp only [hiOf, Option.some.injEq] at hl; exact .inl ⟨rfl, hl.symm⟩
    · obtain ⟨k, rfl⟩ := intOf_rel hr hl; exact .inr ⟨k, rfl⟩
  cases d with
  | v t' =>
    cases t' with
    | sl rows =>
      simp only [sliceSem] at hok ⊢
      cases el : loOf lo with
      | none => simp [el, bad] at hok
      | some l =>
        cases eh : hiOf rows.length hi' with
        | none => simp [el, eh, bad] at hok
        | some hh =>
          simp only [el, eh] at hok ⊢
          obtain ⟨h0, h1, h2, hsz⟩ := hok
          refine ⟨trivial, ?_⟩
          simp only [RelD, RelT] at h
          have hlen : ((rows.take hh.toNat).drop l.toNat).length = hh.toNat - l.toNat := by simp; omega
          rcases h with ⟨rfl, p, c, rfl⟩ | ⟨b, oo, cap, sz, rfl, hb, hn, hc, hr⟩
          · have z1 : hh = 0 := by simp at h2; omega
            have z2 : l = 0 := by omega
            subst z1 z2
            refine ⟨_, hrun p 0 c 0 0 h0 h1 (by omega) (by omega) (lval el) (hval eh), ?_⟩
            simp only [RelD, RelT]
            exact .inl ⟨by simp, _, _, rfl⟩
          · refine ⟨_, hrun _ _ cap l hh h0 h1 h2 hc (lval el) (hval eh), ?_⟩
            simp only [RelD, RelT]
            by_cases hce : cap = l.toNat
            · refine .inl ⟨?_, _, _, by rw [show hh.toNat - l.toNat = 0 by omega]⟩
              apply List.eq_nil_of_length_eq_zero
              omega
            · refine .inr ⟨b, oo + l.toNat * i.size, cap - l.toNat, i.size, ?_, hb, hn, by omega, ?_⟩
              · rw [hlen, if_neg hce]
                simp [add_off]
              · refine RelRows.of_rows _ _ fun j r hj => ?_
                rw [List.getElem?_drop, List.getElem?_take] at hj
                split at hj
                · have hrow := RelRows.row hr hj
                  have hrl := hsz r (List.mem_of_getElem? hj)
                  have : sz = i.size := by omega
                  subst this
                  refine ⟨hrl, ?_⟩
                  have e2 : oo + l.toNat * i.size + j * i.size = oo + (l.toNat + j) * i.size := by rw [Nat.add_mul]; omega
                  rw [e2]
                  exact hrow.2
                · cases hj
    | _ => exact hok.elim
  | nil0 =>
    simp only [sliceSem] at hok ⊢
    cases el : loOf lo with
    | none => simp [el, bad] at hok
    | some l =>
      cases eh : hiOf 0 hi' with
      | none => simp [el, eh, bad] at hok
      | some hh =>
        simp only [el, eh] at hok ⊢
        obtain ⟨rfl, rfl⟩ := hok
        refine ⟨trivial, ?_⟩
        simp only [RelD] at h
        obtain ⟨p, rfl⟩ := h
        refine ⟨_, hrun p 0 0 0 0 (Int.le_refl _) (Int.le_refl _) (by omega) (Nat.le_refl _) (lval el) (hval eh), ?_⟩
        simp [RelD]
  | aref r ver =>
    simp only [sliceSem] at hok ⊢
    cases hc : objs r with
    | none => simp [hc, bad] at hok
    | some ob =>
      cases ob with
      | arr ver' e' sz' rows =>
        simp only [hc] at hok ⊢
        cases el : loOf lo with
        | none => simp [el, bad] at hok
        | some l =>
          cases eh : hiOf rows.length hi' with
          | none => simp [el, eh, bad] at hok
          | some hh =>
            simp only [el, eh] at hok ⊢
            obtain ⟨rfl, rfl, h0, h1, h2⟩ := hok
            refine ⟨trivial, ?_⟩
            simp only [RelD] at h
            obtain ⟨_, ver2, e2, sz2, rows2, ho2, _, hv2⟩ := h
            rw [hc] at ho2
            cases ho2
            have hv2 := hv2 rfl
            subst hv2
            obtain ⟨_, _, _, hal⟩ := hO.ob r _ hc
            have hsl : ∃ p cap, L.sl r = .slice p rows.length cap ∧ rows.length ≤ cap := by
              rcases hal with ⟨rfl, a, ha⟩ | ⟨g, cap, cur, k1, k2, k3, k4, _⟩
              · exact ⟨a, 0, ha, Nat.le_refl _⟩
              · exact ⟨_, cap, k1, k4⟩
            obtain ⟨p, cap, hsl, hcap⟩ := hsl
            refine ⟨_, by rw [hsl]; exact hrun p rows.length cap l hh h0 h1 h2 hcap (lval el) (hval eh), ?_⟩
            simp only [RelD]
            exact ⟨⟨_, _, rfl⟩, ver, e', _, rows, hc, Nat.le_refl _, fun _ => ⟨by omega, p, cap, _, hsl, rfl, fun hlt => by rw [if_neg (by omega)]⟩⟩
      | _ => simp [hc, bad] at hok
  | asl r ver lo0 n =>
    simp only [sliceSem] at hok ⊢
    cases hc : objs r with
    | none => simp [hc, bad] at hok
    | some ob =>
      cases ob with
      | arr ver' e' sz' rows =>
        simp only [hc] at hok ⊢
        cases el : loOf lo with
        | none => simp [el, bad] at hok
        | some l =>
          cases eh : hiOf n hi' with
          | none => simp [el, eh, bad] at hok
          | some hh =>
            simp only [el, eh] at hok ⊢
            obtain ⟨rfl, rfl, h0, h1, h2⟩ := hok
            refine ⟨trivial, ?_⟩
            simp only [RelD] at h
            obtain ⟨_, ver2, e2, sz2, rows2, ho2, _, hv2⟩ := h
            rw [hc] at ho2
            cases ho2
            obtain ⟨hln, p, cap, p2, hsl, rfl, hp2⟩ := hv2 rfl
            obtain ⟨_, _, _, hal⟩ := hO.ob r _ hc
            have hcap : rows.length ≤ cap ∧ ∀ q, p = some q → 0 < cap → ∃ g, q = ⟨g, 0, none⟩ := by
              rcases hal with ⟨rfl, a, ha⟩ | ⟨g, cap', cur, k1, k2, k3, k4, _⟩
              · exact ⟨by simp, fun q hq hc0 => by rw [hsl] at ha; cases ha; omega⟩
              · rw [hsl] at k1
                cases k1
                exact ⟨k4, fun q hq _ => ⟨g, by simpa using hq.symm⟩⟩
            refine ⟨_, hrun p2 n (cap - lo0) l hh h0 h1 h2 (by omega) (lval el) (hval eh), ?_⟩
            simp only [RelD]
            refine ⟨⟨_, _, rfl⟩, ver, e', _, rows, hc, Nat.le_refl _, fun _ => ⟨by omega, p, cap, _, hsl, by rw [Nat.sub_sub], fun hlt => ?_⟩⟩
            rw [if_neg (by omega), hp2 (by omega)]
            cases p with
            | none => rfl
            | some q =>
              obtain ⟨g, rfl⟩ := hcap.2 q rfl (by omega)
              simp [add_off, Nat.add_mul]
      | _ => simp [hc, bad] at hok
  | _ => exact hok.elim
end
end Go.DM
/- The D-machine, part Y: maps, and the iterators over them; each operation does in the model what the machine says. Conditions: none. -/
namespace Go.DM
open Go.RowKit
set_option linter.unusedSimpArgs false
set_option linter.unusedVariables false
set_option linter.unusedSectionVars false
variable [Laid]
section
variable {P : Program} {base : Nat} {W M : Nat → Prop} {w0 : World} {objs : Obs} {L : Loc} {w : World} {a : Act} {o : Oper}

theorem fits_of_fitsT {W' : Nat → Prop} : ∀ {shs : List Sh} {ts : List T} {vs : List Value}, fitsT shs ts → RelL w W' ts vs → fits shs vs
  | [], ts, vs, h, hr => by
    simp only [fitsT] at h
    subst h
    simpa [RelL, fits] using hr
  | s :: ss, [], vs, h, _ => by simp [fitsT] at h
  | s :: ss, t :: ts, vs, h, hr => by
    simp only [fitsT] at h
    simp only [RelL] at hr
    obtain ⟨v, vs', rfl, _, h2, hr⟩ := hr
    simp only [fits]
    refine ⟨v, vs', rfl, ?_, fits_of_fitsT h.2 hr⟩
    have h1 := h.1
    cases s <;> cases t <;> first | exact absurd h1 Bool.false_ne_true | skip
    all_goals (simp only [RelT] at h2; subst h2; first | rfl | exact h1)

theorem eqT_leaf {W' : Nat → Prop} {s : Sh} {t u : T} {x y : Value} (ht : shOk s t = true) (hu : shOk s u = true) (hx : RelT w W' t x) (hy : RelT w W' u y) : eqTB t u = veq x y := by
  cases s <;> cases t <;> (first | exact absurd ht Bool.false_ne_true | skip) <;> cases u <;> (first | exact absurd hu Bool.false_ne_true | skip)
  all_goals (simp only [RelT] at hx hy; subst hx hy; simp only [eqTB, veq])
  · rfl
  · rename_i s1 s2
    by_cases h : s1 = s2
    · subst h; simp
    · have hne : s1.toList ≠ s2.toList := fun e => h (by
        rw [ByteArray.toList_eq, ByteArray.toList_eq] at e
        obtain ⟨d1⟩ := s1
        obtain ⟨d2⟩ := s2
        exact congrArg ByteArray.mk (Array.ext' e))
      simp [h, hne]

theorem eqTs_leaf {W' : Nat → Prop} : ∀ {shs : List Sh} {ts us : List T} {xs ys : List Value}, fitsT shs ts → fitsT shs us → RelL w W' ts xs → RelL w W' us ys → eqTBs ts us = veqs xs ys
  | [], ts, us, xs, ys, h1, h2, hx, hy => by
    simp only [fitsT] at h1 h2
    subst h1 h2
    simp only [RelL] at hx hy
    subst hx hy
    rfl
  | s :: ss, [], _, _, _, h, _, _, _ => by simp [fitsT] at h
  | s :: ss, _ :: _, [], _, _, _, h, _, _ => by simp [fitsT] at h
  | s :: ss, t :: ts, u :: us, xs, ys, h1, h2, hx, hy => by
    simp only [fitsT] at h1 h2
    simp only [RelL] at hx hy
    obtain ⟨x, xs', rfl, _, hx1, hx⟩ := hx
    obtain ⟨y, ys', rfl, _, hy1, hy⟩ := hy
    simp only [eqTBs, veqs]
    rw [eqT_leaf h1.1 h2.1 hx1 hy1, eqTs_leaf h1.2 h2.2 hx hy]

theorem fitsT_one {shs : List Sh} {t : T} (h : fitsT shs [t]) : ∃ s, shs = [s] ∧ shOk s t = true := by
  cases shs with
  | nil => simp [fitsT] at h
  | cons s ss =>
    simp only [fitsT] at h
    cases ss with
    | nil => exact ⟨s, rfl, h.1⟩
    | cons s2 ss => simp [fitsT] at h


theorem check_fields {em : Bool} {d : Nat} (ih : ∀ (t : TypeId) (shs : List Sh) (desc : TypeDesc), shOf P d t = some shs → P.underlying t = some desc → ∀ (xs : List Value) (w : World), fits shs xs → (Instr.checkKey em d t (mkV desc xs)).run P w = .ok () w)
    (hdesc : ∀ (t : TypeId) (shs : List Sh), shOf P d t = some shs → ∃ desc, P.underlying t = some desc ∧ (aggDesc desc = true ∨ shs.length = 1)) (xs : List Value) :
    ∀ (fs : List Field) (off : Nat) (shs : List Sh) (w : World), shFieldsOf P (shOf P d) off fs = some shs → fits shs (xs.drop off) → off ≤ xs.length →
      (forIn fs PUnit.unit (fun f (_ : PUnit) =>
            if f.name ≠ "_" then do
              let x ← part f.type xs.toArray f.offset
              Instr.checkKey em d f.type x
              pure (ForInStep.yield PUnit.unit)
            else pure (ForInStep.yield PUnit.unit)) : Sem PUnit).run P w = .ok PUnit.unit w
  | [], off, shs, w, h, hx, _ => by simp
  | f :: fs, off, shs, w, h, hx, hox => by
    simp only [shFieldsOf] at h
    split at h
    · rename_i s i hs hi
      split at h
      · rename_i hc
        obtain ⟨hn, rfl, hsz⟩ := hc
        simp only [Option.map_eq_some_iff] at h
        obtain ⟨rest, hrest, rfl⟩ := h
        obtain ⟨desc, hd, h1⟩ := hdesc _ _ hs
        have hxl := fits.length hx
        simp only [List.length_append, List.length_drop] at hxl
        obtain ⟨hx1, hx2⟩ := fits.split hx
        rw [List.drop_drop] at hx2
        rw [hsz] at h1
        have p1 := fun w => run_part (P := P) w hd hi (xs := xs) (off := f.offset) h1 (by omega)
        have hr := ih _ _ _ hs hd _ w hx1
        rw [hsz] at hr
        simp only [List.forIn_cons, hn, ne_eq, not_false_eq_true, if_true, Sem.run_bind, p1, Result.andThen_ok, hr, Sem.run_pure]
        exact check_fields ih hdesc xs fs _ rest w hrest hx2 (by omega)
      · cases h
    · cases h

theorem check_arr {em : Bool} {d : Nat} {e : TypeId} {de : TypeDesc} {s : List Sh} {i : TypeInfo} (hd : P.underlying e = some de) (hi : P.info? e = some i) (h1 : aggDesc de = true ∨ i.size = 1) (hs : s.length = i.size)
    (ih : ∀ (xs : List Value) (w : World), fits s xs → (Instr.checkKey em d e (mkV de xs)).run P w = .ok () w) (xs : List Value) :
    ∀ (n k : Nat) (w : World), fits ((List.replicate n s).flatten) (xs.drop (k * i.size)) →
      (forIn (List.range' k n) PUnit.unit (fun j (_ : PUnit) => do
            let sz ← sizeOf e
            let x ← part e xs.toArray (j * sz)
            Instr.checkKey em d e x
            pure (ForInStep.yield PUnit.unit)) : Sem PUnit).run P w = .ok PUnit.unit w
  | 0, k, w, hx => by simp
  | n + 1, k, w, hx => by
    simp only [List.replicate_succ, List.flatten_cons] at hx
    have hxl := fits.length hx
    simp only [List.length_append, List.length_drop] at hxl
    obtain ⟨hx1, hx2⟩ := fits.split hx
    have e2 : k * i.size + s.length = (k + 1) * i.size := by rw [Nat.add_mul, hs]; omega
    rw [List.drop_drop, e2] at hx2
    by_cases hz : i.size = 0
    · have hsz : ∀ (w : World), k * i.size + i.size ≤ xs.length ∨ xs.length < k * i.size := fun _ => by omega
      have h1' := h1.elim id (fun h => by omega)
      have p1 := fun w => run_part (P := P) w hd hi (xs := xs) (off := k * i.size) h1 (by rw [hz]; simp)
      rw [hs] at hx1
      have hr := ih _ w hx1
      simp only [List.range'_succ, List.forIn_cons, Sem.run_bind, run_sizeOf hi, p1, Result.andThen_ok, hr, Sem.run_pure]
      exact check_arr hd hi h1 hs ih xs n (k + 1) w hx2
    · have p1 := fun w => run_part (P := P) w hd hi (xs := xs) (off := k * i.size) h1 (by omega)
      rw [hs] at hx1
      have hr := ih _ w hx1
      simp only [List.range'_succ, List.forIn_cons, Sem.run_bind, run_sizeOf hi, p1, Result.andThen_ok, hr, Sem.run_pure]
      exact check_arr hd hi h1 hs ih xs n (k + 1) w hx2

theorem run_check (em : Bool) : ∀ (d : Nat) (t : TypeId) (shs : List Sh) (desc : TypeDesc), shOf P d t = some shs → P.underlying t = some desc → ∀ (xs : List Value) (w : World), fits shs xs → (Instr.checkKey em d t (mkV desc xs)).run P w = .ok () w
  | 0, t, shs, desc, h, _, _, _, _ => by simp [shOf] at h
  | d + 1, t, shs, desc, h, hu, xs, w, hx => by
    simp only [shOf, hu] at h
    cases desc
    case bool => simp [mkV, aggDesc, Instr.checkKey, run_underlying hu]
    case int k => simp [mkV, aggDesc, Instr.checkKey, run_underlying hu]
    case string => simp [mkV, aggDesc, Instr.checkKey, run_underlying hu]
    case struct fs =>
      replace h : (if P.stoodInHeld t then none else shFieldsOf P (shOf P d) 0 fs.toList) = some shs := h
      split at h
      · cases h
      · have := check_fields (em := em) (fun t shs desc => run_check em d t shs desc) (fun t shs hs => by
          cases d with
          | zero => simp [shOf] at hs
          | succ d => exact sh_desc hs) xs fs.toList 0 shs w h (by simpa using hx) (by omega)
        simp only [mkV, aggDesc, if_true]
        rw [Instr.checkKey]
        simp only [Sem.run_bind, run_underlying hu, Result.andThen_ok]
        rw [← Array.forIn_toList]
        refine (congrArg (fun r => Result.andThen r _) this).trans ?_
        rfl
    case array n e =>
      replace h : (match shOf P d e, P.info? e with
        | some s, some i => if s.length = i.size ∧ 0 < i.size then some ((List.replicate n s).flatten) else none
        | _, _ => none) = some shs := h
      split at h
      · rename_i s i hs hi
        split at h
        · rename_i hc
          simp only [Option.some.injEq] at h
          subst h
          have hde : ∃ desc, P.underlying e = some desc ∧ (aggDesc desc = true ∨ s.length = 1) := by
            cases d with
            | zero => simp [shOf] at hs
            | succ d => exact sh_desc hs
          obtain ⟨de, hd, h1⟩ := hde
          rw [hc.1] at h1
          have := check_arr hd hi h1 hc.1 (fun xs w => run_check em d e s de hs hd xs w) xs n 0 w (by simpa using hx)
          simp only [mkV, aggDesc, if_true]
          rw [Instr.checkKey]
          simp only [Sem.run_bind, run_underlying hu, Result.andThen_ok, Std.Legacy.Range.forIn_eq_forIn_range', Std.Legacy.Range.size, Nat.sub_zero, Nat.add_sub_cancel, Nat.div_one]
          refine (congrArg (fun r => Result.andThen r _) this).trans ?_
          rfl
        · cases h
      · cases h
    all_goals exact absurd h (by simp)

/-- The cells of a key. -/
def cellsT : T → List T
  | .agg as => as
  | t => [t]
theorem keyOk_fits {shs : List Sh} {agg : Bool} {t : T} (h : keyOk shs agg t) : fitsT shs (cellsT t) := by
  cases t <;> simp only [keyOk] at h <;> exact h.2
theorem keyOk_val {W' : Nat → Prop} {shs : List Sh} {desc : TypeDesc} {t : T} {x : Value} (h : keyOk shs (aggDesc desc) t) (hr : RelT w W' t x) : ∃ vs, x = mkV desc vs ∧ RelL w W' (cellsT t) vs := by
  cases t with
  | agg as =>
    simp only [keyOk] at h
    simp only [RelT] at hr
    obtain ⟨vs, rfl, hr⟩ := hr
    exact ⟨vs.toList, by simp [mkV, h.1], hr⟩
  | _ =>
    simp only [keyOk] at h
    refine ⟨[x], by simp [mkV, h.1], ?_⟩
    simp only [cellsT, RelL]
    obtain ⟨s, rfl, hs⟩ := fitsT_one h.2
    refine ⟨x, [], rfl, ?_, hr, rfl⟩
    cases s <;> first | exact absurd hs Bool.false_ne_true | (simp only [RelT] at hr; subst hr; rfl)
theorem eqTB_cells {shs : List Sh} {agg : Bool} {t u : T} (h : keyOk shs agg t) (k : keyOk shs agg u) : eqTB t u = eqTBs (cellsT t) (cellsT u) := by
  cases t with
  | agg as =>
    cases u with
    | agg bs => rfl
    | _ => simp only [keyOk] at h k; rw [h.1] at k; exact absurd k.1 (by simp)
  | _ =>
    cases u with
    | agg bs => simp only [keyOk] at h k; rw [k.1] at h; exact absurd h.1 (by simp)
    | _ => simp [cellsT, eqTBs]

theorem leaf_inj {s : Sh} {t u : T} (ht : shOk s t = true) (hu : shOk s u = true) (h : eqTB t u = true) : t = u := by
  cases s <;> cases t <;> (first | exact absurd ht Bool.false_ne_true | skip) <;> cases u <;> (first | exact absurd hu Bool.false_ne_true | skip)
  · simp only [eqTB, beq_iff_eq] at h; rw [h]
  · simp only [shOk, beq_iff_eq] at ht hu
    simp only [eqTB, decide_eq_true_eq] at h
    subst ht hu h
    rfl
  · simp only [eqTB, decide_eq_true_eq] at h
    rw [h]
theorem leafs_inj : ∀ {shs : List Sh} {ts us : List T}, fitsT shs ts → fitsT shs us → eqTBs ts us = true → ts = us
  | [], ts, us, h1, h2, _ => by simp only [fitsT] at h1 h2; rw [h1, h2]
  | s :: ss, [], _, h, _, _ => by simp [fitsT] at h
  | s :: ss, _ :: _, [], _, h, _ => by simp [fitsT] at h
  | s :: ss, t :: ts, u :: us, h1, h2, h => by
    simp only [fitsT] at h1 h2
    simp only [eqTBs, Bool.and_eq_true] at h
    rw [leaf_inj h1.1 h2.1 h.1, leafs_inj h1.2 h2.2 h.2]
theorem key_inj {shs : List Sh} {agg : Bool} {t u : T} (h : keyOk shs agg t) (k : keyOk shs agg u) (e : eqTB t u = true) : t = u := by
  have h1 := keyOk_fits h
  have k1 := keyOk_fits k
  rw [eqTB_cells h k] at e
  have := leafs_inj h1 k1 e
  cases t with
  | agg as =>
    cases u with
    | agg bs => simpa [cellsT] using this
    | _ => simp only [keyOk] at h k; rw [h.1] at k; exact absurd k.1 (by simp)
  | _ =>
    cases u with
    | agg bs => simp only [keyOk] at h k; rw [k.1] at h; exact absurd h.1 (by simp)
    | _ => exact (List.cons.inj this).1

theorem run_eqKey {k : TypeId} {shs : List Sh} {agg : Bool} (hk : keyInfo P k = some (shs, agg)) {t u : T} {x y : Value} {W' : Nat → Prop} (ht : keyOk shs agg t) (hu : keyOk shs agg u) (hx : RelT w W' t x) (hy : RelT w W' u y) :
    (Op.equal k x y).run P w = .ok (eqTB t u) w := by
  unfold keyInfo at hk
  split at hk
  · rename_i d s hd hs
    simp only [Option.some.injEq, Prod.mk.injEq] at hk
    obtain ⟨rfl, rfl⟩ := hk
    obtain ⟨vs, rfl, h1⟩ := keyOk_val ht hx
    obtain ⟨us, rfl, h2⟩ := keyOk_val hu hy
    rw [eqTB_cells ht hu, eqTs_leaf (keyOk_fits ht) (keyOk_fits hu) h1 h2]
    exact equalIn_sh 10000 k s d hs hd vs us w (fits_of_fitsT (keyOk_fits ht) h1) (fits_of_fitsT (keyOk_fits hu) h2)
  · cases hk
theorem run_checkK {k : TypeId} {shs : List Sh} {agg : Bool} (hk : keyInfo P k = some (shs, agg)) {t : T} {x : Value} {W' : Nat → Prop} (ht : keyOk shs agg t) (hx : RelT w W' t x) (em : Bool) :
    (Instr.checkKey em 10000 k x).run P w = .ok () w := by
  unfold keyInfo at hk
  split at hk
  · rename_i d s hd hs
    simp only [Option.some.injEq, Prod.mk.injEq] at hk
    obtain ⟨rfl, rfl⟩ := hk
    obtain ⟨vs, rfl, h1⟩ := keyOk_val ht hx
    exact run_check em 10000 k s d hs hd vs w (fits_of_fitsT (keyOk_fits ht) h1)
  · cases hk

theorem leaf_of {W' : Nat → Prop} {shs : List Sh} {agg : Bool} {t : T} {v : Value} (hk : keyOk shs agg t) (hr : RelT w W' t v) :
    (∀ k a, v = .int k a → t = .int k a) ∧ (∀ s, v = .string s → t = .str s) ∧ (∀ b, v = .bool b → t = .bool b) := by
  have bad : ∀ {x : T}, fitsT shs [x] → (∀ s, shOk s x = false) → False := fun h1 h2 => by
    obtain ⟨s, _, hs⟩ := fitsT_one h1
    rw [h2] at hs; cases hs
  cases t with
  | agg as => simp only [RelT] at hr; obtain ⟨_, rfl, _⟩ := hr; exact ⟨fun _ _ e => (by cases e), fun _ e => (by cases e), fun _ e => (by cases e)⟩
  | int k a => simp only [RelT] at hr; subst hr; exact ⟨fun _ _ e => (by cases e; rfl), fun _ e => (by cases e), fun _ e => (by cases e)⟩
  | str a => simp only [RelT] at hr; subst hr; exact ⟨fun _ _ e => (by cases e), fun _ e => (by cases e; rfl), fun _ e => (by cases e)⟩
  | bool a => simp only [RelT] at hr; subst hr; exact ⟨fun _ _ e => (by cases e), fun _ e => (by cases e), fun _ e => (by cases e; rfl)⟩
  | _ => exact (bad hk.2 (fun s => by cases s <;> rfl)).elim

/-- What a look for a key finds. -/
def foundAt (t : T) (es : List (Nat × T × DV)) (xs : List MapEntry) (i : Nat) : Option (Nat × Value) :=
  match es.findIdx? fun e => eqTB t e.2.1 with
  | some j => (xs[j]?).map fun e => (i + j, e.val)
  | none => none

theorem foundAt_cons (t : T) (e : Nat × T × DV) (es : List (Nat × T × DV)) (x : MapEntry) (xs : List MapEntry) (i : Nat) : foundAt t (e :: es) (x :: xs) i = if eqTB t e.2.1 then some (i, x.val) else foundAt t es xs (i + 1) := by
  simp only [foundAt, List.findIdx?_cons]
  by_cases h : eqTB t e.2.1 = true
  · simp [h]
  · simp only [h, if_false]
    cases List.findIdx? (fun e => eqTB t e.2.1) es with
    | none => simp
    | some j => simp [show i + 1 + j = i + (j + 1) by omega]

theorem run_findAsk {k : TypeId} {shs : List Sh} {agg : Bool} (hk : keyInfo P k = some (shs, agg)) {t : T} {x : Value} (ht : keyOk shs agg t) (hx : RelT w (WW W objs L) t x) : ∀ (es : List (Nat × T × DV)) (xs : List MapEntry) (i : Nat), RelEs w W objs L es xs → (∀ e ∈ es, keyOk shs agg e.2.1) →
    (Instr.findAsking k x xs i).run P w = .ok (foundAt t es xs i) w
  | [], xs, i, h, _ => by simp only [RelEs] at h; subst h; simp [Instr.findAsking, foundAt]
  | e :: es, xs, i, h, hall => by
    simp only [RelEs] at h
    obtain ⟨y, ys, rfl, _, h2, _, h4⟩ := h
    have := run_eqKey hk ht (hall e (by simp)) hx h2
    rw [foundAt_cons]
    simp only [Instr.findAsking, Sem.run_bind, this, Result.andThen_ok]
    cases eqTB t e.2.1
    · simpa using run_findAsk hk ht hx es ys (i + 1) h4 fun e he => hall e (by simp [he])
    · simp

theorem run_findNow {k : TypeId} {shs : List Sh} {d : TypeDesc} (hd : P.underlying k = some d) (hs : shOf P 10000 k = some shs) {t : T} {x : Value} (ht : keyOk shs (aggDesc d) t) (hx : RelT w (WW W objs L) t x) : ∀ (es : List (Nat × T × DV)) (xs : List MapEntry) (i : Nat), RelEs w W objs L es xs → (∀ e ∈ es, keyOk shs (aggDesc d) e.2.1) →
    Instr.findNow d x xs i = some (foundAt t es xs i) ∨ Instr.findNow d x xs i = none
  | [], xs, i, h, _ => by simp only [RelEs] at h; subst h; simp [Instr.findNow, foundAt]
  | e :: es, xs, i, h, hall => by
    simp only [RelEs] at h
    obtain ⟨y, ys, rfl, _, h2, _, h4⟩ := h
    rw [foundAt_cons]
    simp only [Instr.findNow]
    cases hsn : Instr.sameNow d x y.key with
    | none => right; rfl
    | some r =>
      have hr : r = eqTB t e.2.1 := by
        have lx := leaf_of ht hx
        have ly := leaf_of (hall e (by simp)) h2
        unfold Instr.sameNow at hsn
        split at hsn
        · rename_i k1 a1 k2 a2 e2
          split at hsn
          · rename_i hkk
            subst hkk
            simp only [Option.some.injEq] at hsn
            rw [lx.1 _ _ rfl, ly.1 _ _ e2, ← hsn]
            simp only [eqTB]
            by_cases h : a1 = a2 <;> simp [h]
          · cases hsn
        · rename_i a1 a2 e2
          simp only [Option.some.injEq] at hsn
          rw [lx.2.1 _ rfl, ly.2.1 _ e2, ← hsn]
          simp only [eqTB]
          by_cases h : a1 = a2
          · subst h
            obtain ⟨x⟩ := a1
            simp only [decide_true]
            exact (show (x == x) = true by simp)
          · simp only [h, decide_false]
            cases hb : a1 == a2 with
            | false => rfl
            | true => exact absurd (by
                obtain ⟨x⟩ := a1
                obtain ⟨y⟩ := a2
                have e : x = y := by simpa using (show (x == y) = true from hb)
                rw [e]) h
        · rename_i a1 a2 e2
          simp only [Option.some.injEq] at hsn
          rw [lx.2.2 _ rfl, ly.2.2 _ e2, ← hsn]
          rfl
        · cases hsn
      subst hr
      cases eqTB t e.2.1
      · exact run_findNow hd hs ht hx es ys (i + 1) h4 fun e he => hall e (by simp [he])
      · simp

theorem run_findK {k : TypeId} {shs : List Sh} {agg : Bool} (hk : keyInfo P k = some (shs, agg)) {t : T} {x : Value} (ht : keyOk shs agg t) (hx : RelT w (WW W objs L) t x) {es : List (Nat × T × DV)} {xs : List MapEntry} (h : RelEs w W objs L es xs) (hall : ∀ e ∈ es, keyOk shs agg e.2.1) :
    (Instr.findKey k x xs).run P w = .ok (foundAt t es xs 0) w := by
  have ha := run_findAsk hk ht hx es xs 0 h hall
  unfold keyInfo at hk
  split at hk
  · rename_i d s hd hs
    simp only [Option.some.injEq, Prod.mk.injEq] at hk
    obtain ⟨rfl, rfl⟩ := hk
    unfold Instr.findKey
    simp only [Sem.run_bind, run_underlying hd, Result.andThen_ok]
    rcases run_findNow hd hs ht hx es xs 0 h hall with h1 | h1
    · rw [h1]; simp
    · rw [h1]; exact ha
  · cases hk

/-! ### The entries -/
theorem RelEs.length : ∀ {es : List (Nat × T × DV)} {xs : List MapEntry}, RelEs w W objs L es xs → xs.length = es.length
  | [], _, h => by simp only [RelEs] at h; simp [h]
  | e :: es, _, h => by
    simp only [RelEs] at h
    obtain ⟨x, xs', rfl, _, _, _, h4⟩ := h
    simp [RelEs.length h4]
theorem RelEs.get : ∀ {es : List (Nat × T × DV)} {xs : List MapEntry} {i : Nat} {e : Nat × T × DV}, RelEs w W objs L es xs → es[i]? = some e → ∃ x, xs[i]? = some x ∧ x.born = e.1 ∧ RelT w (WW W objs L) e.2.1 x.key ∧ RelD w W objs L e.2.2 x.val
  | [], _, _, _, _, h => by simp at h
  | e :: es, _, 0, _, hr, h => by
    simp only [RelEs] at hr
    obtain ⟨x, xs', rfl, h1, h2, h3, _⟩ := hr
    simp only [List.getElem?_cons_zero, Option.some.injEq] at h
    subst h
    exact ⟨x, rfl, h1, h2, h3⟩
  | e :: es, _, i + 1, _, hr, h => by
    simp only [RelEs] at hr
    obtain ⟨x, xs', rfl, _, _, _, h4⟩ := hr
    simpa using RelEs.get h4 (by simpa using h)
theorem RelEs.append : ∀ {es es' : List (Nat × T × DV)} {xs xs' : List MapEntry}, RelEs w W objs L es xs → RelEs w W objs L es' xs' → RelEs w W objs L (es ++ es') (xs ++ xs')
  | [], _, _, _, h, k => by simp only [RelEs] at h; subst h; simpa using k
  | e :: es, _, _, _, h, k => by
    simp only [RelEs] at h
    obtain ⟨x, xs1, rfl, h1, h2, h3, h4⟩ := h
    simp only [List.cons_append, RelEs]
    exact ⟨x, _, rfl, h1, h2, h3, RelEs.append h4 k⟩
theorem RelEs.modify {y : DV} {v : Value} (hy : RelD w W objs L y v) : ∀ {es : List (Nat × T × DV)} {xs : List MapEntry} (i : Nat), RelEs w W objs L es xs → RelEs w W objs L (es.modify i fun e => (e.1, e.2.1, y)) (xs.modify i fun e => { e with val := v })
  | [], _, i, h => by simp only [RelEs] at h; subst h; simp [RelEs]
  | e :: es, _, 0, h => by
    simp only [RelEs] at h
    obtain ⟨x, xs1, rfl, h1, h2, h3, h4⟩ := h
    simp only [List.modify_zero_cons, RelEs]
    exact ⟨_, _, rfl, h1, h2, hy, h4⟩
  | e :: es, _, i + 1, h => by
    simp only [RelEs] at h
    obtain ⟨x, xs1, rfl, h1, h2, h3, h4⟩ := h
    simp only [List.modify_succ_cons, RelEs]
    exact ⟨_, _, rfl, h1, h2, h3, RelEs.modify hy i h4⟩
theorem RelEs.erase : ∀ {es : List (Nat × T × DV)} {xs : List MapEntry} (i : Nat), RelEs w W objs L es xs → RelEs w W objs L (es.eraseIdx i) (xs.eraseIdx i)
  | [], _, i, h => by simp only [RelEs] at h; subst h; simp [RelEs]
  | e :: es, _, 0, h => by
    simp only [RelEs] at h
    obtain ⟨x, xs1, rfl, h1, h2, h3, h4⟩ := h
    simpa using h4
  | e :: es, _, i + 1, h => by
    simp only [RelEs] at h
    obtain ⟨x, xs1, rfl, h1, h2, h3, h4⟩ := h
    simp only [List.eraseIdx_cons_succ, RelEs]
    exact ⟨_, _, rfl, h1, h2, h3, RelEs.erase i h4⟩

theorem keyT_rel {d : DV} {x : Value} {t : T} (h : RelD w W objs L d x) (hk : keyT d = some t) : RelT w (WW W objs L) t x := by
  cases d with
  | v t' => simp only [keyT, Option.some.injEq] at hk; subst hk; simpa only [RelD] using h
  | agg cs =>
    simp only [keyT, Option.map_eq_some_iff] at hk
    obtain ⟨ts, hts, rfl⟩ := hk
    simp only [RelD] at h
    obtain ⟨vs, rfl, hr⟩ := h
    simp only [RelT]
    refine ⟨vs, rfl, ?_⟩
    have key : ∀ (cs : List DV) (ts : List T) (vs : List Value), allV cs = some ts → RelDs w W objs L cs vs → RelL w (WW W objs L) ts vs := by
      intro cs
      induction cs with
      | nil => intro ts vs h1 h2; simp only [allV, Option.some.injEq] at h1; subst h1; simpa [RelDs, RelL] using h2
      | cons c cs ih =>
        intro ts vs h1 h2
        cases c with
        | v u =>
          simp only [allV, Option.map_eq_some_iff] at h1
          obtain ⟨us, hus, rfl⟩ := h1
          simp only [RelDs] at h2
          obtain ⟨y, ys, rfl, k1, k2, k3⟩ := h2
          simp only [RelL]
          exact ⟨y, ys, rfl, k1, by simpa only [RelD] using k2, ih us ys hus k3⟩
        | _ => simp [allV] at h1
    exact key cs ts _ hts hr
  | _ => simp [keyT] at hk

def Obj.noRow : Obj → Prop
  | .cells _ _ _ => False
  | _ => True
theorem ba_beq (s : ByteArray) : (s == s) = true := by
  obtain ⟨x⟩ := s
  exact (show (x == x) = true by simp)
theorem getObj_run {b : Nat} {x : Obj} (h : w.heap[b]? = some x) (hx : Obj.noRow x) : (getObj b).run P w = .ok x w := by
  cases x <;> first | exact hx.elim | simp [getObj, Sem.run, h]
def _root_.Go.World.setObj' (w : World) (b : Nat) (x : Obj) : World := { w with heap := w.heap.setIfInBounds b x }
theorem setObj_run {b : Nat} {x y : Obj} (h : w.heap[b]? = some x) (hx : Obj.noRow x) : (setObj b y).run P w = .ok () (w.setObj' b y) := by
  cases x <;> first | exact hx.elim | simp [setObj, Sem.run, h, World.setObj']
theorem setObj_heap {b : Nat} {x y : Obj} (h : w.heap[b]? = some x) : (w.setObj' b y).heap[b]? = some y := by
  have hlt : b < w.heap.size := (Array.getElem?_eq_some_iff.1 h).1
  simp [World.setObj', hlt]
theorem setObj_other {b k : Nat} {y : Obj} (h : k ≠ b) : (w.setObj' b y).heap[k]? = w.heap[k]? := by simp [World.setObj', Ne.symm h]
theorem setObj_size {b : Nat} {y : Obj} : (w.setObj' b y).heap.size = w.heap.size := by simp [World.setObj']
theorem fr_setObj {g : Nat} (x : Obj) (h : Fr base M w0 w) (hg : base ≤ g ∨ M g) : Fr base M w0 (w.setObj' g x) :=
  ⟨h.os, h.tape, h.output, h.size0, by rw [setObj_size]; exact h.size, fun k hk hm => by
    rw [setObj_other (by rintro rfl; rcases hg with h1 | h1; · omega
                         exact hm h1)]
    exact h.block k hk hm, h.drawn⟩

/-- A map's block is turned. -/
theorem put_map (hO : RelO base W M w0 objs w L) {r c c' : Nat} {shs shs' : List Sh} {agg agg' : Bool} {es es' : List (Nat × T × DV)} (hc : objs r = some (.map shs agg c es)) {arr' : Array MapEntry}
    (hr : RelEs w W objs L es' arr'.toList) (h1 : ∀ e ∈ es', keyOk shs' agg' e.2.1) (h2 : ∀ e ∈ es', e.1 < c') (h3 : (es'.map (·.1)).Nodup) :
    RelO base W M w0 (putO objs (some (r, .map shs' agg' c' es'))) (w.setObj' (L.blk r) (.map arr' c')) L ∧ Adv W objs L w (putO objs (some (r, .map shs' agg' c' es'))) L (w.setObj' (L.blk r) (.map arr' c')) := by
  obtain ⟨arr, hh, _, _, _, _, hm⟩ := hO.ob r _ hc
  refine RelO.put hO (fr_setObj _ hO.fr hm) (by rw [setObj_size]; exact Nat.le_refl _) (fun _ _ => ⟨rfl, rfl⟩) rfl (fun b _ hb => setObj_other (fun x => hb _ hc (by simp [Loc.own, x])))
    (fun b hb => .inl ⟨_, hc, hb⟩) (fun o' ho' _ => by rw [hc] at ho'; cases ho'; exact ⟨rfl, rfl⟩) (fun ver e sz rows h => by rw [hc] at h; cases h) (fun adv => ?_)
  exact ⟨arr', setObj_heap hh, RelEs.adv adv _ _ hr, h1, h2, h3, hm⟩

theorem sameBits_self : ∀ {shs : List Sh} {ts : List T} {vs : List Value} {W' : Nat → Prop} (n : Nat), fitsT shs ts → RelL w W' ts vs → (vs.zip vs).all (fun x => Instr.sameBits n x.1 x.2) = true
  | [], ts, vs, W', n, h, hr => by simp only [fitsT] at h; subst h; simp only [RelL] at hr; subst hr; rfl
  | s :: ss, [], _, _, _, h, _ => by simp [fitsT] at h
  | s :: ss, t :: ts, vs, W', n, h, hr => by
    simp only [fitsT] at h
    simp only [RelL] at hr
    obtain ⟨v, vs', rfl, _, h1, h2⟩ := hr
    simp only [List.zip_cons_cons, List.all_cons, Bool.and_eq_true]
    refine ⟨?_, sameBits_self n h.2 h2⟩
    have hs := h.1
    cases s <;> cases t <;> first | exact absurd hs Bool.false_ne_true | skip
    all_goals (simp only [RelT] at h1; subst h1; cases n <;> simp [Instr.sameBits, ba_beq])
theorem key_same {shs : List Sh} {agg : Bool} {t : T} {x : Value} {W' : Nat → Prop} (h : keyOk shs agg t) (hr : RelT w W' t x) : Instr.sameBits 10000 x x = true := by
  cases t with
  | agg as =>
    simp only [keyOk] at h
    simp only [RelT] at hr
    obtain ⟨vs, rfl, hr⟩ := hr
    simp only [Instr.sameBits, beq_self_eq_true, Bool.true_and]
    exact sameBits_self 9999 h.2 hr
  | _ =>
    simp only [keyOk] at h
    obtain ⟨s, rfl, hs⟩ := fitsT_one h.2
    have h1 : x.oneCell' = true := by cases s <;> first | exact absurd hs Bool.false_ne_true | (simp only [RelT] at hr; subst hr; rfl)
    have := sameBits_self (w := w) (W' := W') 10000 h.2 (vs := [x]) (by simp only [RelL]; exact ⟨x, [], rfl, h1, hr, rfl⟩)
    simpa using this
/-- Trees without memory read as one value. -/
theorem leafs_val : ∀ {shs : List Sh} {ts : List T} {vs us : List Value} {W' : Nat → Prop}, fitsT shs ts → RelL w W' ts vs → RelL w W' ts us → vs = us
  | [], ts, vs, us, W', h, h1, h2 => by simp only [fitsT] at h; subst h; simp only [RelL] at h1 h2; rw [h1, h2]
  | s :: ss, [], _, _, _, h, _, _ => by simp [fitsT] at h
  | s :: ss, t :: ts, vs, us, W', h, h1, h2 => by
    simp only [fitsT] at h
    simp only [RelL] at h1 h2
    obtain ⟨v, vs', rfl, _, k1, k2⟩ := h1
    obtain ⟨u, us', rfl, _, l1, l2⟩ := h2
    have hs := h.1
    rw [leafs_val h.2 k2 l2]
    congr 1
    cases s <;> cases t <;> first | exact absurd hs Bool.false_ne_true | skip
    all_goals (simp only [RelT] at k1 l1; rw [k1, l1])
theorem key_val {shs : List Sh} {agg : Bool} {t : T} {x y : Value} {W' : Nat → Prop} (h : keyOk shs agg t) (hx : RelT w W' t x) (hy : RelT w W' t y) : x = y := by
  cases t with
  | agg as =>
    simp only [keyOk] at h
    simp only [RelT] at hx hy
    obtain ⟨vs, rfl, hx⟩ := hx
    obtain ⟨us, rfl, hy⟩ := hy
    have := leafs_val h.2 hx hy
    rw [Array.toList_inj.1 this]
  | _ =>
    simp only [keyOk] at h
    obtain ⟨s, rfl, hs⟩ := fitsT_one h.2
    cases s <;> first | exact absurd hs Bool.false_ne_true | (simp only [RelT] at hx hy; rw [hx, hy])
end
end Go.DM
/- The D-machine, part Z: the operations on maps, strings' bytes, tests against nil; each does in the model what the machine says. Conditions: none. -/
namespace Go.DM
open Go.RowKit
set_option linter.unusedSimpArgs false
set_option linter.unusedVariables false
set_option linter.unusedSectionVars false
variable [Laid]
section
variable {P : Program} {base : Nat} {W M : Nat → Prop} {w0 : World} {objs : Obs} {L : Loc} {w : World} {a : Act} {o : Oper}

theorem zeroD_rel {et : TypeId} {z : DV} (h : zeroD P et = some z) : ∃ zv, (zeroValue et).run P w = .ok zv w ∧ RelD w W objs L z zv := by
  unfold zeroD at h
  simp only [Option.bind_eq_bind, Option.bind_eq_some_iff] at h
  obtain ⟨i, hi, zv, hz, h⟩ := h
  refine ⟨zv, by simp [zeroValue, typeInfo, hi, hz], ?_⟩
  split at h
  · rename_i cs
    simp only [Option.map_eq_some_iff] at h
    obtain ⟨ds, hds, rfl⟩ := h
    simp only [RelD]
    exact ⟨cs, rfl, mapM_constD_rel hds⟩
  · exact (constD_rel h).1

theorem findE_at (t : T) (es : List (Nat × T × DV)) : findE t es = (es.findIdx? fun e => eqTB t e.2.1).bind (es[·]?) := by
  unfold findE
  induction es with
  | nil => rfl
  | cons e es ih =>
    simp only [List.find?_cons, List.findIdx?_cons]
    by_cases h : eqTB t e.2.1 = true
    · simp [h]
    · simp only [h, if_false, ih]
      cases List.findIdx? (fun e => eqTB t e.2.1) es <;> simp
theorem idx_lt {t : T} {es : List (Nat × T × DV)} {i : Nat} (h : (es.findIdx? fun e => eqTB t e.2.1) = some i) : ∃ e, es[i]? = some e ∧ eqTB t e.2.1 = true := by
  induction es generalizing i with
  | nil => simp at h
  | cons e es ih =>
    simp only [List.findIdx?_cons] at h
    by_cases he : eqTB t e.2.1 = true
    · simp only [he, if_true, Option.some.injEq] at h
      subst h
      exact ⟨e, rfl, he⟩
    · rw [if_neg he, Option.map_eq_some_iff] at h
      obtain ⟨j, hj, rfl⟩ := h
      simpa using ih hj

theorem lookup_sound (hO : RelO base W M w0 objs w L) {t kt et : TypeId} {x k : Operand} {ok : Bool} (ho : o.op = .lookup t x k ok) (ht : P.underlying t = some (.map kt et)) {shs : List Sh} {agg : Bool} (hk : keyInfo P kt = some (shs, agg)) {z : DV} (hz : zeroD P et = some z)
    {d1 d2 : DV} (h1 : RelD w W objs L d1 (a.eval x)) (h2 : RelD w W objs L d2 (a.eval k)) (hok : (lookupSem shs agg z ok objs d1 d2).ok) : OpRun P base W M w0 objs L w a o (lookupSem shs agg z ok objs d1 d2) := by
  unfold lookupSem at hok ⊢
  split at hok
  · rename_i r kt' hkt
    cases hc : objs r with
    | none => simp [hc, bad] at hok
    | some ob =>
      cases ob with
      | map shs' agg' c es =>
        simp only [hc] at hok ⊢
        obtain ⟨rfl, rfl, hkok⟩ := hok
        simp only [RelD] at h1
        obtain ⟨_, hx⟩ := h1
        have hkr := keyT_rel h2 hkt
        obtain ⟨arr, hh, hes, hall, _, _, _⟩ := hO.ob r _ hc
        have hck := fun em => run_checkK (P := P) (w := w) hk hkok hkr em
        have hf := run_findK (P := P) hk hkok hkr hes hall
        have hg := getObj_run (P := P) hh trivial
        simp only [hkt]
        rw [findE_at]
        unfold foundAt at hf
        cases hi : es.findIdx? (fun e => eqTB kt' e.2.1) with
        | none =>
          simp only [hi] at hf
          obtain ⟨zv, hzr, hzd⟩ := zeroD_rel (P := P) (w := w) (W := W) (objs := objs) (L := L) hz
          simp only [Option.bind_none]
          have hrun : (Instr.lookup t (.map (some (L.blk r))) (a.eval k) ok).run P w = .ok (if ok then .tuple #[zv, .bool false] else zv) w := by
            simp [Instr.lookup, run_underlying ht, hg, hck, hf, hzr]
          refine OpRun.quiet hO rfl (v := if ok then .tuple #[zv, .bool false] else zv) (by simp [execOp, ho, hx, hrun]) ?_
          cases ok
          · simpa using hzd
          · simp only [if_true, RelD]
            exact ⟨_, rfl, by simp only [RelDa]; exact ⟨zv, _, rfl, hzd, .bool false, [], rfl, by simp [RelD, RelT], rfl⟩⟩
        | some i =>
          obtain ⟨e, he, hq⟩ := idx_lt hi
          obtain ⟨xe, hxe, _, _, hv⟩ := RelEs.get hes he
          simp only [hi, hxe, Option.map_some] at hf
          simp only [Option.bind_some, he]
          have hrun : (Instr.lookup t (.map (some (L.blk r))) (a.eval k) ok).run P w = .ok (if ok then .tuple #[xe.val, .bool true] else xe.val) w := by
            simp [Instr.lookup, run_underlying ht, hg, hck, hf]
          refine OpRun.quiet hO rfl (v := if ok then .tuple #[xe.val, .bool true] else xe.val) (by simp [execOp, ho, hx, hrun]) ?_
          cases ok
          · simpa using hv
          · simp only [if_true, RelD]
            exact ⟨_, rfl, by simp only [RelDa]; exact ⟨xe.val, _, rfl, hv, .bool true, [], rfl, by simp [RelD, RelT], rfl⟩⟩
      | _ => simp [hc, bad] at hok
  · exact hok.elim

theorem nodup_modify {es : List (Nat × T × DV)} {y : DV} (i : Nat) : (es.modify i fun e => (e.1, e.2.1, y)).map (·.1) = es.map (·.1) := by
  induction es generalizing i with
  | nil => simp
  | cons e es ih => cases i <;> simp [ih]
theorem keys_modify {es : List (Nat × T × DV)} {y : DV} (i : Nat) {e : Nat × T × DV} (h : e ∈ es.modify i fun e => (e.1, e.2.1, y)) : ∃ e' ∈ es, e.1 = e'.1 ∧ e.2.1 = e'.2.1 := by
  induction es generalizing i with
  | nil => simp at h
  | cons e0 es ih =>
    cases i with
    | zero =>
      simp only [List.modify_zero_cons, List.mem_cons] at h
      rcases h with rfl | h
      · exact ⟨e0, by simp, rfl, rfl⟩
      · exact ⟨e, by simp [h], rfl, rfl⟩
    | succ i =>
      simp only [List.modify_succ_cons, List.mem_cons] at h
      rcases h with rfl | h
      · exact ⟨e, by simp, rfl, rfl⟩
      · obtain ⟨e', h1, h2⟩ := ih i h
        exact ⟨e', by simp [h1], h2⟩

theorem modify_key {es : List (Nat × T × DV)} {xs : List MapEntry} {i : Nat} {v key : Value} {x : MapEntry} (hx : xs[i]? = some x) (hk : x.key = key) : (xs.modify i fun e => { e with key := key, val := v }) = xs.modify i fun e => { e with val := v } := by
  induction xs generalizing i with
  | nil => simp
  | cons y ys ih =>
    cases i with
    | zero =>
      simp only [List.getElem?_cons_zero, Option.some.injEq] at hx
      subst hx hk
      simp
    | succ i =>
      simp only [List.modify_succ_cons, List.cons.injEq, true_and]
      exact ih (by simpa using hx)

theorem mapUpd_sound (hO : RelO base W M w0 objs w L) {t kt et : TypeId} {x k y : Operand} (ho : o.op = .mapUpdate t x k y) (ht : P.underlying t = some (.map kt et)) {shs : List Sh} {agg : Bool} (hk : keyInfo P kt = some (shs, agg))
    {d1 d2 d3 : DV} (h1 : RelD w W objs L d1 (a.eval x)) (h2 : RelD w W objs L d2 (a.eval k)) (h3 : RelD w W objs L d3 (a.eval y)) (hok : (mapUpdSem shs agg objs d1 d2 d3).ok) : OpRun P base W M w0 objs L w a o (mapUpdSem shs agg objs d1 d2 d3) := by
  unfold mapUpdSem at hok ⊢
  split at hok
  · rename_i r kt' hkt
    cases hc : objs r with
    | none => simp [hc, bad] at hok
    | some ob =>
      cases ob with
      | map shs' agg' c es =>
        simp only [hc] at hok ⊢
        obtain ⟨rfl, rfl, hkok, hb⟩ := hok
        simp only [RelD] at h1
        obtain ⟨_, hx⟩ := h1
        have hkr := keyT_rel h2 hkt
        obtain ⟨arr, hh, hes, hall, hlt, hnd, hm⟩ := hO.ob r _ hc
        have hck := fun em => run_checkK (P := P) (w := w) hk hkok hkr em
        have hf := run_findK (P := P) hk hkok hkr hes hall
        have hg := getObj_run (P := P) hh trivial
        have hs := fun y => setObj_run (P := P) (y := y) hh trivial
        simp only [hkt]
        unfold foundAt at hf
        unfold setE clockE
        cases hi : es.findIdx? (fun e => eqTB kt' e.2.1) with
        | none =>
          simp only [hi] at hf
          simp only
          have hrun : (Instr.mapUpdate t (.map (some (L.blk r))) (a.eval k) (a.eval y)).run P w = .ok () (w.setObj' (L.blk r) (.map (arr.push { key := a.eval k, val := a.eval y, born := c }) (c + 1))) := by
            simp [Instr.mapUpdate, run_underlying ht, hg, hck, hf, hs]
          have := put_map hO hc (shs' := shs') (agg' := agg') (c' := c + 1) (es' := es ++ [(c, kt', d3)]) (arr' := arr.push { key := a.eval k, val := a.eval y, born := c })
            (by rw [Array.toList_push]; exact RelEs.append hes (by simp only [RelEs]; exact ⟨_, _, rfl, rfl, hkr, h3, rfl⟩))
            (fun e he => by rcases List.mem_append.1 he with he | he; · exact hall e he
                            · simp only [List.mem_singleton] at he; subst he; exact hkok)
            (fun e he => by rcases List.mem_append.1 he with he | he; · have := hlt e he; omega
                            · simp only [List.mem_singleton] at he; subst he; simp)
            (by rw [List.map_append, List.nodup_append]; exact ⟨hnd, by simp, fun b hb b2 hb2 => by
                  simp only [List.map_cons, List.map_nil, List.mem_singleton] at hb2
                  obtain ⟨e, he, rfl⟩ := List.mem_map.1 hb
                  have := hlt e he
                  omega⟩)
          exact ⟨.skip, Go.undef, _, L, by simp [execOp, ho, hx, hrun], .inr ⟨rfl, rfl⟩, this.1, this.2, by simp [RelD]⟩
        | some i =>
          obtain ⟨e, he, hq⟩ := idx_lt hi
          obtain ⟨xe, hxe, _, hxk, hv⟩ := RelEs.get hes he
          simp only [hi, hxe, Option.map_some] at hf
          have hte : kt' = e.2.1 := key_inj hkok (hall e (List.mem_of_getElem? he)) hq
          have hkey : xe.key = a.eval k := key_val hkok (by rw [hte]; exact hxk) hkr
          have hkts : (Instr.keyThatStays xe.key (a.eval k)).run P w = .ok (a.eval k) w := by
            rw [hkey]
            simp [Instr.keyThatStays, key_same hkok hkr]
          have hai : arr[i]? = some xe := by simpa using hxe
          have hrun : (Instr.mapUpdate t (.map (some (L.blk r))) (a.eval k) (a.eval y)).run P w = .ok () (w.setObj' (L.blk r) (.map (arr.modify i fun e => { e with key := a.eval k, val := a.eval y }) c)) := by
            simp [Instr.mapUpdate, run_underlying ht, hg, hck, hf, hs, hai, hkts]
          have harr : (arr.modify i fun e => { e with key := a.eval k, val := a.eval y }).toList = arr.toList.modify i fun e => { e with val := a.eval y } := by
            rw [Array.toList_modify]
            exact modify_key (es := es) (by simpa using hai) hkey
          simp only
          have := put_map hO hc (shs' := shs') (agg' := agg') (c' := c) (es' := es.modify i fun e => (e.1, e.2.1, d3)) (arr' := arr.modify i fun e => { e with key := a.eval k, val := a.eval y })
            (by rw [harr]; exact RelEs.modify h3 i hes)
            (fun e he => by obtain ⟨e', h1, _, h2⟩ := keys_modify i he; rw [h2]; exact hall e' h1)
            (fun e he => by obtain ⟨e', h1, h2, _⟩ := keys_modify i he; rw [h2]; exact hlt e' h1)
            (by rw [nodup_modify]; exact hnd)
          exact ⟨.skip, Go.undef, _, L, by simp [execOp, ho, hx, hrun], .inr ⟨rfl, rfl⟩, this.1, this.2, by simp [RelD]⟩
      | _ => simp [hc, bad] at hok
  · exact hok.elim

theorem mapEnt_sound (hO : RelO base W M w0 objs w L) {t kt et : TypeId} {x k : Operand} (ho : o.op = .mapEntry t x k) (ht : P.underlying t = some (.map kt et)) {shs : List Sh} {agg : Bool} (hk : keyInfo P kt = some (shs, agg)) {z : DV} (hz : zeroD P et = some z)
    {d1 d2 : DV} (h1 : RelD w W objs L d1 (a.eval x)) (h2 : RelD w W objs L d2 (a.eval k)) (hok : (mapEntSem shs agg z objs d1 d2).ok) : OpRun P base W M w0 objs L w a o (mapEntSem shs agg z objs d1 d2) := by
  unfold mapEntSem at hok ⊢
  split at hok
  · rename_i r kt' hkt
    cases hc : objs r with
    | none => simp [hc, bad] at hok
    | some ob =>
      cases ob with
      | map shs' agg' c es =>
        simp only [hc] at hok ⊢
        obtain ⟨rfl, rfl, hkok⟩ := hok
        simp only [RelD] at h1
        obtain ⟨_, hx⟩ := h1
        have hkr := keyT_rel h2 hkt
        obtain ⟨arr, hh, hes, hall, hlt, hnd, hm⟩ := hO.ob r _ hc
        have hck := fun em => run_checkK (P := P) (w := w) hk hkok hkr em
        have hf := run_findK (P := P) hk hkok hkr hes hall
        have hg := getObj_run (P := P) hh trivial
        have hs := fun y => setObj_run (P := P) (y := y) hh trivial
        simp only [hkt]
        unfold entV
        rw [findE_at]
        unfold foundAt at hf
        unfold entE clockE
        cases hi : es.findIdx? (fun e => eqTB kt' e.2.1) with
        | none =>
          simp only [hi] at hf
          obtain ⟨zv, hzr, hzd⟩ := zeroD_rel (P := P) (w := w) (W := W) (objs := objs) (L := L) hz
          simp only [Option.bind_none]
          have hrun : (Instr.mapEntry t (.map (some (L.blk r))) (a.eval k)).run P w = .ok (.tuple #[zv, goInt c]) (w.setObj' (L.blk r) (.map (arr.push { key := a.eval k, val := zv, born := c }) (c + 1))) := by
            simp [Instr.mapEntry, run_underlying ht, hg, hck, hf, hs, hzr]
          have := put_map hO hc (shs' := shs') (agg' := agg') (c' := c + 1) (es' := es ++ [(c, kt', z)]) (arr' := arr.push { key := a.eval k, val := zv, born := c })
            (by rw [Array.toList_push]; exact RelEs.append hes (by simp only [RelEs]; exact ⟨_, _, rfl, rfl, hkr, hzd, rfl⟩))
            (fun e he => by rcases List.mem_append.1 he with he | he; · exact hall e he
                            · simp only [List.mem_singleton] at he; subst he; exact hkok)
            (fun e he => by rcases List.mem_append.1 he with he | he; · have := hlt e he; omega
                            · simp only [List.mem_singleton] at he; subst he; simp)
            (by rw [List.map_append, List.nodup_append]; exact ⟨hnd, by simp, fun b hb b2 hb2 => by
                  simp only [List.map_cons, List.map_nil, List.mem_singleton] at hb2
                  obtain ⟨e, he, rfl⟩ := List.mem_map.1 hb
                  have := hlt e he
                  omega⟩)
          refine ⟨.value (.tuple #[zv, goInt c]), .tuple #[zv, goInt c], _, L, by simp [execOp, ho, hx, hrun], .inl rfl, this.1, this.2, ?_⟩
          have hz2 := RelD.adv this.2 _ _ hzd
          simp only [RelD]
          exact ⟨_, rfl, by simp only [RelDa]; exact ⟨zv, _, rfl, hz2, goInt c, [], rfl, by simp [RelD, RelT, goInt], rfl⟩⟩
        | some i =>
          obtain ⟨e, he, hq⟩ := idx_lt hi
          obtain ⟨xe, hxe, hxb, hxk, hv⟩ := RelEs.get hes he
          simp only [hi, hxe, Option.map_some] at hf
          have hte : kt' = e.2.1 := key_inj hkok (hall e (List.mem_of_getElem? he)) hq
          have hkey : xe.key = a.eval k := key_val hkok (by rw [hte]; exact hxk) hkr
          have hkts : (Instr.keyThatStays xe.key (a.eval k)).run P w = .ok (a.eval k) w := by
            rw [hkey]
            simp [Instr.keyThatStays, key_same hkok hkr]
          have hai : arr[i]? = some xe := by simpa using hxe
          have harr : (arr.modify i fun e => { e with key := a.eval k }).toList = arr.toList := by
            rw [Array.toList_modify]
            apply List.ext_getElem?
            intro j
            rw [List.getElem?_modify]
            split
            · rename_i hj; subst hj; rw [hxe]; simp [← hkey]
            · simp
          have hrun : (Instr.mapEntry t (.map (some (L.blk r))) (a.eval k)).run P w = .ok (.tuple #[xe.val, goInt xe.born]) (w.setObj' (L.blk r) (.map (arr.modify i fun e => { e with key := a.eval k }) c)) := by
            simp [Instr.mapEntry, run_underlying ht, hg, hck, hf, hs, hai, hkts]
          have := put_map hO hc (shs' := shs') (agg' := agg') (c' := c) (es' := es) (arr' := arr.modify i fun e => { e with key := a.eval k })
            (by rw [harr]; exact hes) hall hlt hnd
          simp only [Option.bind_some, he]
          refine ⟨.value (.tuple #[xe.val, goInt xe.born]), .tuple #[xe.val, goInt xe.born], _, L, by simp [execOp, ho, hx, hrun], .inl rfl, this.1, this.2, ?_⟩
          have hz2 := RelD.adv this.2 _ _ hv
          simp only [RelD]
          exact ⟨_, rfl, by simp only [RelDa]; exact ⟨xe.val, _, rfl, hz2, goInt xe.born, [], rfl, by simp [RelD, RelT, goInt, hxb], rfl⟩⟩
      | _ => simp [hc, bad] at hok
  · exact hok.elim

theorem born_idx {es : List (Nat × T × DV)} {xs : List MapEntry} {b : Int} (h : RelEs w W objs L es xs) : xs.findIdx? (fun e => (e.born : Int) == b) = es.findIdx? (fun e => (e.1 : Int) == b) := by
  induction es generalizing xs with
  | nil => simp only [RelEs] at h; subst h; rfl
  | cons e es ih =>
    simp only [RelEs] at h
    obtain ⟨x, xs', rfl, hb, _, _, hr⟩ := h
    simp only [List.findIdx?_cons, ih hr, hb]

theorem entSt_sound (hO : RelO base W M w0 objs w L) {t : TypeId} {x s y : Operand} (ho : o.op = .entryStore t x s y)
    {d1 d2 d3 : DV} (h1 : RelD w W objs L d1 (a.eval x)) (h2 : RelD w W objs L d2 (a.eval s)) (h3 : RelD w W objs L d3 (a.eval y)) (hok : (entStSem objs d1 d2 d3).ok) : OpRun P base W M w0 objs L w a o (entStSem objs d1 d2 d3) := by
  unfold entStSem at hok ⊢
  split at hok
  · rename_i r kk b
    cases hc : objs r with
    | none => simp [hc, bad] at hok
    | some ob =>
      cases ob with
      | map shs agg c es =>
        simp only [hc] at hok ⊢
        simp only [RelD, RelT] at h1 h2
        obtain ⟨_, hx⟩ := h1
        obtain ⟨arr, hh, hes, hall, hlt, hnd, hm⟩ := hO.ob r _ hc
        have hg := getObj_run (P := P) hh trivial
        have hs := fun y => setObj_run (P := P) (y := y) hh trivial
        unfold setB at hok ⊢
        cases hi : es.findIdx? (fun e => (e.1 : Int) == b) with
        | none => simp [hi, bad] at hok
        | some i =>
          simp only [Option.map_some]
          have hbi := (born_idx (b := b) hes).trans hi
          have hbi' : arr.findIdx? (fun e => (e.born : Int) == b) = some i := by rw [← hbi]; cases arr; simp
          have hrun : (Instr.entryStore t (.map (some (L.blk r))) (.int kk b) (a.eval y)).run P w = .ok () (w.setObj' (L.blk r) (.map (arr.modify i fun e => { e with val := a.eval y }) c)) := by
            simp [Instr.entryStore, hg, hs, asInt, asIntOf, hbi']
          have := put_map hO hc (shs' := shs) (agg' := agg) (c' := c) (es' := es.modify i fun e => (e.1, e.2.1, d3)) (arr' := arr.modify i fun e => { e with val := a.eval y })
            (by rw [Array.toList_modify]; exact RelEs.modify h3 i hes)
            (fun e he => by obtain ⟨e', h1, _, h2⟩ := keys_modify i he; rw [h2]; exact hall e' h1)
            (fun e he => by obtain ⟨e', h1, h2, _⟩ := keys_modify i he; rw [h2]; exact hlt e' h1)
            (by rw [nodup_modify]; exact hnd)
          exact ⟨.skip, Go.undef, _, L, by simp [execOp, ho, hx, h2, hrun], .inr ⟨rfl, rfl⟩, this.1, this.2, by simp [RelD]⟩
      | _ => simp [hc, bad] at hok
  · exact hok.elim

theorem mapDel_sound (hO : RelO base W M w0 objs w L) {t kt et : TypeId} {x k : Operand} {ts : Array TypeId} (hts : ts[0]? = some t) (ho : o.op = .call { callee := .builtin .delete, args := #[x, k], argTypes := ts }) (ht : P.underlying t = some (.map kt et)) {shs : List Sh} {agg : Bool} (hk : keyInfo P kt = some (shs, agg))
    {d1 d2 : DV} (h1 : RelD w W objs L d1 (a.eval x)) (h2 : RelD w W objs L d2 (a.eval k)) (hok : (mapDelSem shs agg objs d1 d2).ok) : OpRun P base W M w0 objs L w a o (mapDelSem shs agg objs d1 d2) := by
  unfold mapDelSem at hok ⊢
  split at hok
  · rename_i r kt' hkt
    cases hc : objs r with
    | none => simp [hc, bad] at hok
    | some ob =>
      cases ob with
      | map shs' agg' c es =>
        simp only [hc] at hok ⊢
        obtain ⟨rfl, rfl, hkok⟩ := hok
        simp only [RelD] at h1
        obtain ⟨_, hx⟩ := h1
        have hkr := keyT_rel h2 hkt
        obtain ⟨arr, hh, hes, hall, hlt, hnd, hm⟩ := hO.ob r _ hc
        have hck := fun em => run_checkK (P := P) (w := w) hk hkok hkr em
        have hf := run_findK (P := P) hk hkok hkr hes hall
        have hg := getObj_run (P := P) hh trivial
        have hs := fun y => setObj_run (P := P) (y := y) hh trivial
        simp only [hkt]
        unfold foundAt at hf
        unfold delE
        cases hi : es.findIdx? (fun e => eqTB kt' e.2.1) with
        | none =>
          simp only [hi] at hf
          simp only
          have := put_map hO hc (shs' := shs') (agg' := agg') (c' := c) (es' := es) (arr' := arr) hes hall hlt hnd
          refine ⟨.value (.tuple #[]), .tuple #[], _, L, ?_, .inl rfl, this.1, this.2, by simp only [RelD, RelT, RelA]; exact ⟨_, rfl, rfl⟩⟩
          simp [execOp, ho, resolve, invoke, builtin, Builtin.delete_, hts, hx, run_underlying ht, hg, hck, hf, hs]
        | some i =>
          obtain ⟨e, he, hq⟩ := idx_lt hi
          obtain ⟨xe, hxe, _, hxk, hv⟩ := RelEs.get hes he
          simp only [hi, hxe, Option.map_some] at hf
          have harr : (arr.eraseIdxIfInBounds i).toList = arr.toList.eraseIdx i := by
            have : i < arr.size := by have := (List.getElem?_eq_some_iff.1 hxe).1; simpa using this
            unfold Array.eraseIdxIfInBounds
            simp [this]
          simp only
          have := put_map hO hc (shs' := shs') (agg' := agg') (c' := c) (es' := es.eraseIdx i) (arr' := arr.eraseIdxIfInBounds i)
            (by rw [harr]; exact RelEs.erase i hes)
            (fun e he => hall e (List.mem_of_mem_eraseIdx he))
            (fun e he => hlt e (List.mem_of_mem_eraseIdx he))
            (List.Sublist.nodup ((List.eraseIdx_sublist _ _).map _) hnd)
          refine ⟨.value (.tuple #[]), .tuple #[], _, L, ?_, .inl rfl, this.1, this.2, by simp only [RelD, RelT, RelA]; exact ⟨_, rfl, rfl⟩⟩
          simp [execOp, ho, resolve, invoke, builtin, Builtin.delete_, hts, hx, run_underlying ht, hg, hck, hf, hs]
      | _ => simp [hc, bad] at hok
  · exact hok.elim

theorem lenM_sound (hO : RelO base W M w0 objs w L) {x : Operand} {t kt et : TypeId} (ho : o.op = .call { callee := .builtin .len, args := #[x], argTypes := #[t] }) (ht : P.underlying t = some (.map kt et)) {d : DV} (h : RelD w W objs L d (a.eval x)) (hok : (lenMSem objs d).ok) :
    OpRun P base W M w0 objs L w a o (lenMSem objs d) := by
  unfold lenMSem at hok ⊢
  split at hok
  · rename_i r
    cases hc : objs r with
    | none => simp [hc, bad] at hok
    | some ob =>
      cases ob with
      | map shs agg c es =>
        simp only [RelD] at h
        obtain ⟨_, hx⟩ := h
        obtain ⟨arr, hh, hes, _⟩ := hO.ob r _ hc
        have hg := getObj_run (P := P) hh trivial
        have hl := RelEs.length hes
        simp only [Array.length_toList] at hl
        refine OpRun.int hO rfl rfl ?_
        simp [execOp, ho, resolve, invoke, builtin, hx, Builtin.len_, run_underlying ht, goInt, hg, hl]
      | _ => simp [hc, bad] at hok
  · exact hok.elim

theorem mkMap_sound (hO : RelO base W M w0 objs w L) {name : Nat} (hname : objs name = none) {t : TypeId} (ho : o.op = .makeMap t none) (shs : List Sh) (agg : Bool) :
    OpRun P base W M w0 objs L w a o ⟨True, .mref name, some (name, .map shs agg 0 [])⟩ := by
  have hb := below_alloc (w := w) (.map #[] 0)
  have h := RelO.put hO (r := name) (L' := L.setBlk name w.heap.size) (o' := .map shs agg 0 []) (fr_below hO.fr hb) hb.size (fun x hx => ⟨by simp [Loc.setBlk, hx], rfl⟩) rfl (fun b hlt _ => hb.block b hlt) (fun b h => .inr (by
      simp only [Loc.own, Loc.setBlk, if_true, Option.some.injEq] at h; omega))
    (fun o' h _ => by rw [hname] at h; cases h) (fun _ _ _ _ h => by rw [hname] at h; cases h) (fun adv => by
      refine ⟨#[], ?_, by simp [RelEs], by simp, by simp, by simp, .inl ?_⟩
      · simp only [Loc.setBlk, if_true]; exact heap_alloc_new w _
      · simp only [Loc.setBlk, if_true]; exact Nat.le_trans hO.fr.size0 hO.fr.size)
  refine ⟨_, .map (some w.heap.size), _, _, ?_, .inl rfl, h.1, h.2, ?_⟩
  · simp [execOp, ho, Instr.makeMap]
  · simp only [RelD]
    exact ⟨⟨shs, agg, 0, [], by simp [putO]⟩, by simp [Loc.setBlk]⟩

theorem rangeM_sound (hO : RelO base W M w0 objs w L) {name : Nat} (hname : objs name = none) {x : Operand} {t kt et : TypeId} (ho : o.op = .range t x) (ht : P.underlying t = some (.map kt et)) {d : DV} (h : RelD w W objs L d (a.eval x)) (hok : (rangeMSem name objs d).ok) :
    OpRun P base W M w0 objs L w a o (rangeMSem name objs d) := by
  unfold rangeMSem at hok ⊢
  split at hok
  · rename_i r
    cases hc : objs r with
    | none => simp [hc, bad] at hok
    | some ob =>
      cases ob with
      | map shs agg c es =>
        simp only [RelD] at h
        obtain ⟨hmp, hx⟩ := h
        obtain ⟨arr, hh, hes, _⟩ := hO.ob r _ hc
        have hg := getObj_run (P := P) hh trivial
        have hne : r ≠ name := fun e => by rw [e, hname] at hc; cases hc
        have hb := below_alloc (w := w) (.mapIter (some (L.blk r)) c #[] c)
        have h := RelO.put hO (r := name) (L' := L.setBlk name w.heap.size) (o' := .iter r c [] c) (fr_below hO.fr hb) hb.size (fun x hx => ⟨by simp [Loc.setBlk, hx], rfl⟩) rfl (fun b hlt _ => hb.block b hlt) (fun b h => .inr (by
            simp only [Loc.own, Loc.setBlk, if_true, Option.some.injEq] at h; omega))
          (fun o' h _ => by rw [hname] at h; cases h) (fun _ _ _ _ h => by rw [hname] at h; cases h) (fun adv => by
            refine ⟨?_, ⟨shs, agg, c, es, by simp [putO, hne, hc]⟩, .inl ?_⟩
            · simp only [Loc.setBlk, if_true, hne, if_false]; exact heap_alloc_new w _
            · simp only [Loc.setBlk, if_true]; exact Nat.le_trans hO.fr.size0 hO.fr.size)
        simp only [hc]
        refine ⟨_, .pointer (some ⟨w.heap.size, 0, none⟩), _, _, ?_, .inl rfl, h.1, h.2, ?_⟩
        · simp [execOp, ho, Instr.range, hx, run_underlying ht, hg]
        · simp only [RelD]
          exact ⟨⟨r, c, [], c, by simp [putO]⟩, by simp [Loc.setBlk]⟩
      | _ => simp [hc, bad] at hok
  · exact hok.elim

theorem find_stamp {b : Nat} : ∀ {es : List (Nat × T × DV)} {xs : List MapEntry}, RelEs w W objs L es xs → ∀ {e : Nat × T × DV}, (es.find? fun e => e.1 == b) = some e → ∃ x, (xs.find? fun x => x.born == b) = some x ∧ RelT w (WW W objs L) e.2.1 x.key ∧ RelD w W objs L e.2.2 x.val
  | [], _, _, e, h => by simp at h
  | e0 :: es, xs, hr, e, h => by
    simp only [RelEs] at hr
    obtain ⟨x, xs', rfl, h1, h2, h3, h4⟩ := hr
    simp only [List.find?_cons, h1] at h ⊢
    by_cases hb : (e0.1 == b) = true
    · simp only [hb] at h ⊢
      cases h
      exact ⟨x, rfl, h2, h3⟩
    · simp only [hb] at h ⊢
      exact find_stamp h4 h

theorem entryM_sound (hO : RelO base W M w0 objs w L) {x : Operand} (ho : o.op = .entry x) {d : DV} (h : RelD w W objs L d (a.eval x)) (hok : (entryMSem objs d).ok) :
    OpRun P base W M w0 objs L w a o (entryMSem objs d) := by
  unfold entryMSem at hok ⊢
  split at hok
  · rename_i r
    cases hc : objs r with
    | none => simp [hc, bad] at hok
    | some ob =>
      cases ob with
      | iter m s sn l =>
        simp only [hc] at hok ⊢
        cases hm : objs m with
        | none => simp [hm, bad] at hok
        | some om =>
          cases om with
          | map shs agg c es =>
            simp only [hm] at hok ⊢
            cases hl : sn.getLast? with
            | none => simp [hl, bad] at hok
            | some b =>
              simp only [hl] at hok ⊢
              cases hf : es.find? (fun e => e.1 == b) with
              | none => simp [hf, bad] at hok
              | some e =>
                simp only [hf] at hok ⊢
                subst hok
                simp only [RelD] at h
                obtain ⟨_, hx⟩ := h
                obtain ⟨hh, _, _⟩ := hO.ob r _ hc
                obtain ⟨arr, hh2, hes, _⟩ := hO.ob m _ hm
                have hg := getObj_run (P := P) hh trivial
                have hg2 := getObj_run (P := P) hh2 trivial
                obtain ⟨xe, hxe, k1, k2⟩ := find_stamp hes hf
                have hback : sn.toArray.back? = some b := by rw [List.back?_toArray]; exact hl
                have hfa : arr.find? (fun x => x.born == b) = some xe := by rw [← Array.find?_toList]; exact hxe
                refine OpRun.quiet hO rfl (v := .tuple #[xe.key, xe.val]) ?_ ?_
                · simp [execOp, ho, Instr.entry, hx, hg, hback, hg2, hfa]
                · simp only [RelD]
                  exact ⟨_, rfl, by simp only [RelDa]; exact ⟨_, _, rfl, by simpa [RelD] using k1, _, _, rfl, k2, rfl⟩⟩
          | _ => simp [hm, bad] at hok
      | _ => simp [hc, bad] at hok
  · exact hok.elim

theorem indexS_sound (hO : RelO base W M w0 objs w L) {t : TypeId} {x i : Operand} (ho : o.op = .index t x i) (ht : P.underlying t = some .string) {d1 d2 : DV} (h1 : RelD w W objs L d1 (a.eval x)) (h2 : RelD w W objs L d2 (a.eval i)) (hok : (indexSSem d1 d2).ok) :
    OpRun P base W M w0 objs L w a o (indexSSem d1 d2) := by
  unfold indexSSem at hok ⊢
  split at hok
  · rename_i s k j
    simp only [RelD, RelT] at h1 h2
    obtain ⟨h0, hlt⟩ := hok
    have hj : j.toNat < s.size := by omega
    have hj' : j.toNat < s.data.size := hj
    have hget : s[j.toNat]? = some (s.data.getD j.toNat 0) := by
      rw [getElem?_pos s j.toNat hj]
      simp [Array.getD, hj', ByteArray.getElem_eq_getElem_data]
      intro h; omega
    refine OpRun.int hO rfl rfl ?_
    simp [execOp, ho, Instr.index, h1, h2, asIntOf, run_underlying ht, h0, hget]
  · exact hok.elim

theorem run_nil {op : BinOp} {neg : Bool} (hop : op = if neg then .neq else .eql) {t : TypeId} {x y : Operand} {yt : TypeId} (ho : o.op = .binOp op t x y yt) {r : Bool} (hne : ∀ k n, a.eval x ≠ .int k n) (hni : a.eval x ≠ .nilIface) (hna : ∀ cs, a.eval x ≠ .agg cs) (hnf : ∀ k b, a.eval x ≠ .float k b) (hnc : ∀ k b c, a.eval x ≠ .complex k b c) (hns : ∀ s, a.eval x ≠ .string s)
    (he : (Op.equal t (a.eval x) (a.eval y)).run P w = .ok r w) (hg : (eqGuard op t x y (a.eval x) (a.eval y)).run P w = .ok () w) : (execOp a.eval o).run P w = .ok (.value (.bool (neg ^^ r))) w := by
  have hb : (binOp op t (a.eval x) (a.eval y)).run P w = .ok (.bool (neg ^^ r)) w := by
    generalize a.eval x = xv at *
    subst hop
    cases neg <;> cases xv <;> first | exact absurd rfl (hne _ _) | exact absurd rfl hni | exact absurd rfl (hna _) | exact absurd rfl (hnf _ _) | exact absurd rfl (hnc _ _ _) | exact absurd rfl (hns _) | simp [binOp, he]
  simp [execOp, ho, hg, hb]

theorem nilKind_val {d : TypeDesc} {y : Operand} {y' : Opd} {k : Nat} (hy : Opd.of y = some y') (h : nilKind d y' = some k) :
    (k = 0 ∧ (∃ e, d = .slice e) ∧ a.eval y = .slice none 0 0) ∨ (k = 1 ∧ (∃ e, d = .pointer e) ∧ a.eval y = .pointer none) ∨ (k = 2 ∧ (∃ p r v, d = .func p r v) ∧ a.eval y = .nilFunc) := by
  unfold nilKind at h
  have key : ∀ {z : DV}, Opd.of y = some (.con z) → ∃ v, a.eval y = v ∧ (constD v = some z ∨ (∃ f, z = .v (.fn f [])) ∨ ∃ c, z = .bptr c 0) := by
    intro z hz
    cases y with
    | tmp t => simp [Opd.of] at hz
    | const v => simp only [Opd.of, Option.map_eq_some_iff, Opd.con.injEq] at hz; obtain ⟨d, hd, rfl⟩ := hz; exact ⟨v, rfl, .inl hd⟩
    | func f => simp only [Opd.of, Option.some.injEq, Opd.con.injEq] at hz; subst hz; exact ⟨_, rfl, .inr (.inl ⟨_, rfl⟩)⟩
    | global g =>
      simp only [Opd.of, Option.map_eq_some_iff, Opd.con.injEq] at hz
      obtain ⟨p, _, rfl⟩ := hz
      exact ⟨_, rfl, .inr (.inr ⟨_, rfl⟩)⟩
  split at h
  · obtain ⟨v, hv, hc | ⟨f, hf⟩ | ⟨f, hf⟩⟩ := key hy
    · unfold constD at hc
      split at hc <;> simp at hc
      exact .inl ⟨by simpa using h.symm, ⟨_, rfl⟩, hv⟩
    · cases hf
    · cases hf
  · obtain ⟨v, hv, hc | ⟨f, hf⟩ | ⟨f, hf⟩⟩ := key hy
    · unfold constD at hc
      split at hc <;> simp at hc
      exact .inr (.inl ⟨by simpa using h.symm, ⟨_, rfl⟩, hv⟩)
    · cases hf
    · cases hf
  · obtain ⟨v, hv, hc | ⟨f, hf⟩ | ⟨f, hf⟩⟩ := key hy
    · unfold constD at hc
      split at hc <;> simp at hc
      exact .inr (.inr ⟨by simpa using h.symm, ⟨_, _, _, rfl⟩, hv⟩)
    · cases hf
    · cases hf
  · cases h

theorem equal_step (d : Nat) (hd : d = 9999) (t : TypeId) (x y : Value) : (Op.equal t x y) = Op.equalIn (d + 1) t x y := by subst hd; rfl
theorem run_eq_slice_nil (t e : TypeId) (p : Option Addr) (n c : Nat) (h : P.underlying t = some (.slice e)) : (Op.equal t (.slice p n c) (.slice none 0 0)).run P w = .ok p.isNone w := by
  obtain ⟨d, hd⟩ : ∃ d, d = 9999 := ⟨_, rfl⟩
  rw [equal_step d hd, Op.equalIn]
  cases p <;> simp [run_underlying h]
theorem run_eq_ptr_nil (t e : TypeId) (p : Option Addr) (h : P.underlying t = some (.pointer e)) : (Op.equal t (.pointer p) (.pointer none)).run P w = .ok p.isNone w := by
  obtain ⟨d, hd⟩ : ∃ d, d = 9999 := ⟨_, rfl⟩
  rw [equal_step d hd, Op.equalIn]
  cases p <;> simp [run_underlying h]
theorem run_eq_fn_nil (t : TypeId) {q1 q2 q3} (v : Value) (r : Bool) (h : P.underlying t = some (.func q1 q2 q3)) (hv : (v = .nilFunc ∧ r = true) ∨ (∃ f b c, v = .func f b c) ∧ r = false) : (Op.equal t v .nilFunc).run P w = .ok r w := by
  obtain ⟨d, hd⟩ : ∃ d, d = 9999 := ⟨_, rfl⟩
  rw [equal_step d hd, Op.equalIn]
  rcases hv with ⟨rfl, rfl⟩ | ⟨⟨f, b, c, rfl⟩, rfl⟩ <;> simp [run_underlying h]

theorem isNil_sound (hO : RelO base W M w0 objs w L) {op : BinOp} {neg : Bool} (hop : op = if neg then .neq else .eql) {t : TypeId} {x y : Operand} {yt : TypeId} (ho : o.op = .binOp op t x y yt) {d : TypeDesc} (hd : P.underlying t = some d) {y' : Opd} (hy : Opd.of y = some y') {k : Nat} (hk : nilKind d y' = some k)
    {d1 : DV} (h1 : RelD w W objs L d1 (a.eval x)) (hok : (isNilSem k neg objs d1).ok) : OpRun P base W M w0 objs L w a o (isNilSem k neg objs d1) := by
  have hv := nilKind_val (a := a) hy hk
  have fin : ∀ {r : Bool}, isNilSem k neg objs d1 = ⟨(isNilSem k neg objs d1).ok, .v (.bool (neg ^^ r)), none⟩ → (execOp a.eval o).run P w = .ok (.value (.bool (neg ^^ r))) w → OpRun P base W M w0 objs L w a o (isNilSem k neg objs d1) := by
    intro r e h
    rw [e]
    exact OpRun.bool hO rfl rfl h
  have sl : ∀ {p : Option Addr} {n c : Nat}, k = 0 → a.eval x = .slice p n c → (execOp a.eval o).run P w = .ok (.value (.bool (neg ^^ p.isNone))) w := by
    intro p n c h0 hx
    rcases hv with ⟨_, ⟨e, rfl⟩, hy'⟩ | ⟨h, _⟩ | ⟨h, _⟩
    · refine run_nil hop ho (by simp [hx]) (by simp [hx]) (by simp [hx]) (by simp [hx]) (by simp [hx]) (by simp [hx]) (by rw [hx, hy']; exact run_eq_slice_nil t e p n c hd) ?_
      rw [hx, hy', hop]; cases neg <;> simp [eqGuard]
    · omega
    · omega
  have pt : ∀ {p : Option Addr}, k = 1 → a.eval x = .pointer p → (execOp a.eval o).run P w = .ok (.value (.bool (neg ^^ p.isNone))) w := by
    intro p h0 hx
    rcases hv with ⟨h, _⟩ | ⟨_, ⟨e, rfl⟩, hy'⟩ | ⟨h, _⟩
    · omega
    · refine run_nil hop ho (by simp [hx]) (by simp [hx]) (by simp [hx]) (by simp [hx]) (by simp [hx]) (by simp [hx]) (by rw [hx, hy']; exact run_eq_ptr_nil t e p hd) ?_
      rw [hx, hy', hop]; cases neg <;> simp [eqGuard]
    · omega
  have fn : ∀ {v : Value} {r : Bool}, k = 2 → a.eval x = v → (v = .nilFunc ∧ r = true) ∨ (∃ f b c, v = .func f b c) ∧ r = false → (execOp a.eval o).run P w = .ok (.value (.bool (neg ^^ r))) w := by
    intro v r h0 hx hvr
    rcases hv with ⟨h, _⟩ | ⟨h, _⟩ | ⟨_, ⟨q1, q2, q3, rfl⟩, hy'⟩
    · omega
    · omega
    · have he := run_eq_fn_nil (w := w) t v r hd hvr
      subst hx
      refine run_nil hop ho ?_ ?_ ?_ ?_ ?_ ?_ (by rw [hy']; exact he) ?_
      all_goals rcases hvr with ⟨hx, rfl⟩ | ⟨⟨f, b, c, hx⟩, rfl⟩ <;> first | (simp [hx]; done) | (rw [hx, hy', hop]; cases neg <;> simp [eqGuard])
  cases d1 with
  | v t' =>
    cases t' with
    | sl rows =>
      simp only [isNilSem] at hok
      obtain ⟨h0, hne⟩ := hok
      simp only [RelD, RelT] at h1
      rcases h1 with ⟨rfl, _⟩ | ⟨b, oo, c, sz, hx, _⟩
      · exact absurd rfl hne
      · exact fin (r := false) rfl (sl h0 hx)
    | fn f caps =>
      cases f with
      | func f => simp only [RelD, RelT] at h1; obtain ⟨vs, hx, _⟩ := h1; exact fin (r := false) rfl (fn hok hx (.inr ⟨⟨_, _, _, rfl⟩, rfl⟩))
      | _ => exact hok.elim
    | box cs => simp only [RelD, RelT] at h1; obtain ⟨b, oo, hx, _⟩ := h1; exact fin (r := false) rfl (pt hok hx)
    | raw v =>
      simp only [RelD, RelT] at h1
      cases v with
      | slice p n c => exact fin (r := p.isNone) rfl (sl hok h1)
      | pointer p => exact fin (r := p.isNone) rfl (pt hok h1)
      | nilFunc => exact fin (r := true) rfl (fn hok h1 (.inl ⟨rfl, rfl⟩))
      | _ => exact hok.elim
    | _ => exact hok.elim
  | ptr r off => simp only [RelD] at h1; exact fin (r := false) rfl (pt hok h1.2)
  | bptr cs off => simp only [RelD] at h1; obtain ⟨b, oo, hx, _⟩ := h1; exact fin (r := false) rfl (pt hok hx)
  | tptr rows i off => simp only [RelD] at h1; obtain ⟨b, oo, sz, hx, _⟩ := h1; exact fin (r := false) rfl (pt hok hx)
  | aptr r ver i off => simp only [RelD] at h1; obtain ⟨⟨b, oo, hx⟩, _⟩ := h1; exact fin (r := false) rfl (pt hok hx)
  | clo f caps =>
    cases f with
    | func f => simp only [RelD] at h1; obtain ⟨vs, hx, _⟩ := h1; exact fin (r := false) rfl (fn hok hx (.inr ⟨⟨_, _, _, rfl⟩, rfl⟩))
    | _ => exact hok.elim
  | aref r ver =>
    cases hc : objs r with
    | none => simp [isNilSem, hc, bad] at hok
    | some ob =>
      cases ob with
      | arr ver' e' sz' rows =>
        have e1 : isNilSem k neg objs (.aref r ver) = ⟨k = 0 ∧ ver = ver' ∧ rows ≠ [], .v (.bool (neg ^^ false)), none⟩ := by simp only [isNilSem, hc]
        rw [e1] at hok
        obtain ⟨h0, rfl, hne⟩ := hok
        simp only [RelD] at h1
        obtain ⟨_, ver2, e2, sz2, rows2, ho2, _, hv2⟩ := h1
        rw [hc] at ho2
        cases ho2
        have hx := hv2 rfl
        obtain ⟨_, _, _, hal⟩ := hO.ob r _ hc
        rcases hal with ⟨rfl, _⟩ | ⟨g, cap, cur, k1, _⟩
        · exact absurd rfl hne
        · exact fin (r := false) (by rw [e1]) (sl h0 (hx.trans k1))
      | _ => simp [isNilSem, hc, bad] at hok
  | _ => exact hok.elim

/-- One step of a loop over a map that stands as it stood when the loop began: any of the entries that have not been handed out; or none is left. -/
theorem next_sound (hO : RelO base W M w0 objs w L) {r m s l c : Nat} {sn : List Nat} {shs : List Sh} {agg : Bool} {es : List (Nat × T × DV)} (hr : objs r = some (.iter m s sn l)) (hm : objs m = some (.map shs agg c es)) (hlt : ∀ e ∈ es, e.1 < s) (hl : s ≤ l) (ty : TypeId) :
    ((∀ e ∈ es, e.1 ∈ sn) ∧ (Instr.next (.pointer (some ⟨L.blk r, 0, none⟩)) false ty).run P w = .ok (.tuple #[.bool false]) w) ∨
    ∃ e ∈ es, e.1 ∉ sn ∧ ∃ k v w', (Instr.next (.pointer (some ⟨L.blk r, 0, none⟩)) false ty).run P w = .ok (.tuple #[.bool true, k, v]) w' ∧
      RelO base W M w0 (putO objs (some (r, .iter m s (sn ++ [e.1]) c))) w' L ∧ Adv W objs L w (putO objs (some (r, .iter m s (sn ++ [e.1]) c))) L w' := by
  obtain ⟨hh, _, hmm⟩ := hO.ob r _ hr
  obtain ⟨arr, hh2, hes, _⟩ := hO.ob m _ hm
  have hg := getObj_run (P := P) hh trivial
  have hg2 := getObj_run (P := P) hh2 trivial
  have hborn : ∀ x ∈ arr.toList, x.born < s := by
    intro x hx
    obtain ⟨i, hi⟩ := List.getElem?_of_mem hx
    have hil : i < es.length := by rw [← RelEs.length hes]; exact (List.getElem?_eq_some_iff.1 hi).1
    obtain ⟨x', hx', hb, _⟩ := RelEs.get hes (List.getElem?_eq_getElem hil)
    rw [hi] at hx'
    cases hx'
    rw [hb]
    exact hlt _ (List.getElem_mem hil)
  have htest : (!(sn.toArray).isEmpty && !arr.isEmpty && arr.all (fun x => decide (x.born ≥ l))) = false := by
    cases he : arr.isEmpty with
    | true => simp
    | false =>
      have hall : arr.all (fun x => decide (x.born ≥ l)) = false := by
        rw [Bool.eq_false_iff]
        intro h
        rw [Array.all_eq_true_iff_forall_mem] at h
        have h0 : 0 < arr.size := by
          rcases Nat.eq_zero_or_pos arr.size with h0 | h0
          · simp [Array.isEmpty, h0] at he
          · exact h0
        have h1 := h _ (Array.getElem_mem h0)
        have h2 := hborn arr[0] (by simp)
        simp at h1
        omega
      simp [hall]
  have hleft : ∀ x, x ∈ arr.filter (fun e => !sn.toArray.contains e.born) ↔ x ∈ arr.toList ∧ x.born ∉ sn := by
    intro x
    simp
  have hmem : ∀ x ∈ (arr.filter (fun e => !sn.toArray.contains e.born)), x.born < s := fun x hx => hborn x ((hleft x).1 hx).1
  simp only [Instr.next, Sem.run_bind, hg, hg2, Result.andThen_ok, htest, Bool.false_eq_true, if_false]
  generalize hL : arr.filter (fun e => !sn.toArray.contains e.born) = A at hleft hmem ⊢
  have e1 : A.filter (fun x => decide (x.born < s)) = A := Array.filter_eq_self.2 (fun x hx => by simpa using hmem x hx)
  have e2 : A.filter (fun x => decide (x.born ≥ s)) = #[] := by
    rw [Array.filter_eq_empty_iff]
    intro x hx
    have := hmem x hx
    simp
    omega
  simp only [e1, e2, Array.append_empty]
  by_cases h0 : A.size = 0
  · left
    have : A = #[] := Array.eq_empty_of_size_eq_zero h0
    subst this
    refine ⟨fun e he => ?_, ?_⟩
    · obtain ⟨i, hi⟩ := List.getElem?_of_mem he
      obtain ⟨x, hx, hb, _⟩ := RelEs.get hes hi
      by_cases h : e.1 ∈ sn
      · exact h
      · have := (hleft x).2 ⟨List.mem_of_getElem? hx, by rw [hb]; exact h⟩
        simp at this
    · simp [choose, Sem.run, Question.forced]
  · right
    have hne : A.isEmpty = false := by simp [Array.isEmpty, h0]
    simp only [hne, Bool.false_eq_true, if_false, Array.empty_append, Array.size_map]
    have hch : ∃ (j : Nat) (w1 : World), j < A.size ∧ (w1 = w ∨ w1 = w.drew) ∧ (choose (Question.mapNext A.size)).run P w = .ok j w1 := by
      by_cases hf : A.size ≤ 1
      · exact ⟨0, w, by omega, .inl rfl, by simp [choose, Sem.run, Question.forced, hf]⟩
      · exact ⟨_, w.drew, Nat.mod_lt _ (by omega), .inr rfl, by
          simp only [choose, Sem.run, Question.forced, decide_eq_true_eq, hf, if_false, Question.cut]
          rfl⟩
    obtain ⟨j, w1, hj, hw1, hrun⟩ := hch
    have hin := (hleft A[j]).1 (Array.getElem_mem hj)
    obtain ⟨i, hi⟩ := List.getElem?_of_mem hin.1
    have hil : i < es.length := by rw [← RelEs.length hes]; exact (List.getElem?_eq_some_iff.1 hi).1
    obtain ⟨x', hx', hb, _⟩ := RelEs.get hes (List.getElem?_eq_getElem hil)
    rw [hi] at hx'
    cases hx'
    have hhe : w1.heap = w.heap := by rcases hw1 with rfl | rfl <;> rfl
    have hh1 : w1.heap[L.blk r]? = some (.mapIter (some (L.blk m)) s sn.toArray l) := by rw [hhe]; exact hh
    have hfr1 : Fr base M w0 w1 := by
      rcases hw1 with rfl | rfl
      · exact hO.fr
      · exact ⟨hO.fr.os, hO.fr.tape, hO.fr.output, hO.fr.size0, hO.fr.size, hO.fr.block, Nat.le_succ_of_le hO.fr.drawn⟩
    refine ⟨es[i], List.getElem_mem hil, by rw [← hb]; exact hin.2, A[j].key, A[j].val, w1.setObj' (L.blk r) (.mapIter (some (L.blk m)) s (sn.toArray.push A[j].born) c), ?_, ?_⟩
    · simp only [hrun, Array.getElem?_map, Array.getElem?_eq_getElem hj, Option.map_some, Sem.run_bind, setObj_run (P := P) hh1 trivial, Result.andThen_ok, Sem.run_pure]
    · rw [hb]
      refine RelO.put hO (fr_setObj _ hfr1 hmm) (by rw [setObj_size, hhe]; exact Nat.le_refl _) (fun _ _ => ⟨rfl, rfl⟩) rfl (fun b _ hb => (setObj_other (fun x => hb _ hr (by simp [Loc.own, x]))).trans (by rw [hhe]))
        (fun b hb => .inl ⟨_, hr, hb⟩) (fun o' ho' _ => by rw [hr] at ho'; cases ho'; exact ⟨rfl, rfl⟩) (fun ver e sz rows h => by rw [hr] at h; cases h) (fun adv => ?_)
      refine ⟨?_, ?_, hmm⟩
      · rw [setObj_heap hh1]; simp
      · have hne : m ≠ r := fun e => by rw [e, hr] at hm; cases hm
        exact ⟨shs, agg, c, es, by simp [putO, hne, hm]⟩
end
end Go.DM
