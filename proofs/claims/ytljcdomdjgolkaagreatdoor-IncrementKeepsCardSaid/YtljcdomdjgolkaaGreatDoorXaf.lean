/- The D-machine, part N: code. Conditions: none. -/
import Derived.Test.YtljcdomdjgolkaaGreatDoorXae
import Derived.Sort.LoopGhostIn
import Derived.RangeFuncLeaves
namespace Go.DM
open Go.RowKit
set_option linter.unusedSimpArgs false
set_option linter.unusedVariables false
set_option linter.unusedSectionVars false
variable [Laid]

/-- Code as the machine reads it; 'other' is what it cannot read. -/
inductive DC where
  | skip
  | region (draw : Bool) (rs : List RO)
  | regionT (rs : List RO)
  | seq (a b : DC)
  | cond (c : Opd) (a b : DC)
  | block (id : Nat) (c : DC)
  | loop (c : DC)
  | exit (id : Nat)
  | ret
  | rangeF (g : Opd) (ps : List Nat) (a b : DC)
  | nextR (x : Opd) (d1 d2 : Nat)     -- one step of a loop over a map
  | other

/-- The step of a loop over a map: 'next', and whether there was one. -/
def asNext (ops : Array Oper) : Option (Opd × Nat × Nat) :=
  match ops.toList with
  | [a, b] => match a.op, b.op, a.dst, b.dst, a.guard, b.guard with
    | .next x false, .extract (.tmp t) 0, some d1, some d2, none, none => if t = d1 then (Opd.of x).map fun y => (y, d1, d2) else none
    | _, _, _, _, _, _ => none
  | _ => none

def compileC (P : Program) (nt : Nat) : Code → DC
  | .skip => .skip
  | .region _ ops draw => match compileROs P ops with
    | some rs => if regionOk nt draw rs then .region draw rs else if draw && regionOk nt false rs then .regionT rs else .other
    | none => if draw then .other else match asNext ops with
      | some q => if q.2.1 < nt ∧ q.2.2 < nt then .nextR q.1 q.2.1 q.2.2 else .other
      | none => .other
  | .seq a b => .seq (compileC P nt a) (compileC P nt b)
  | .cond c a b => match Opd.of c with
    | some x => .cond x (compileC P nt a) (compileC P nt b)
    | none => .other
  | .block id c => .block id (compileC P nt c)
  | .loop c => .loop (compileC P nt c)
  | .exit id => .exit id
  | .ret => .ret
  | .rangeFunc g ps a b => match Opd.of g with
    | some x => if ps.toList.all (· < nt) then .rangeF x ps.toList (compileC P nt a) (compileC P nt b) else .other
    | none => .other
  | _ => .other

section
variable {P : Program} {nt : Nat} {c : Code}
theorem inv_skip (h : compileC P nt c = .skip) : c = .skip := by
  cases c <;> simp only [compileC] at h <;> first | rfl | cases h | (repeat' split at h) <;> cases h
theorem inv_ret (h : compileC P nt c = .ret) : c = .ret := by
  cases c <;> simp only [compileC] at h <;> first | rfl | cases h | (repeat' split at h) <;> cases h
theorem inv_rangeF {x : Opd} {ps : List Nat} {a b : DC} (h : compileC P nt c = .rangeF x ps a b) : ∃ g qs y z, c = .rangeFunc g qs y z ∧ Opd.of g = some x ∧ qs.toList = ps ∧ (∀ p ∈ ps, p < nt) ∧ compileC P nt y = a ∧ compileC P nt z = b := by
  cases c <;> simp only [compileC] at h <;> first | (cases h; done) | skip
  · (repeat' split at h) <;> cases h
  · split at h <;> cases h
  · split at h
    · rename_i hx
      split at h
      · rename_i hp
        cases h
        exact ⟨_, _, _, _, rfl, hx, rfl, fun p hp' => by have := List.all_eq_true.1 hp p hp'; simpa using this, rfl, rfl⟩
      · cases h
    · cases h
theorem inv_exit {id : Nat} (h : compileC P nt c = .exit id) : c = .exit id := by
  cases c <;> simp only [compileC] at h <;> first | (cases h; rfl) | cases h | (repeat' split at h) <;> cases h
theorem inv_seq {a b : DC} (h : compileC P nt c = .seq a b) : ∃ x y, c = .seq x y ∧ compileC P nt x = a ∧ compileC P nt y = b := by
  cases c <;> simp only [compileC] at h <;> first | (cases h; exact ⟨_, _, rfl, rfl, rfl⟩) | cases h | (repeat' split at h) <;> cases h
theorem inv_cond {x : Opd} {a b : DC} (h : compileC P nt c = .cond x a b) : ∃ x' y z, c = .cond x' y z ∧ Opd.of x' = some x ∧ compileC P nt y = a ∧ compileC P nt z = b := by
  cases c <;> simp only [compileC] at h <;> first | (cases h; done) | skip
  · (repeat' split at h) <;> cases h
  · split at h
    · rename_i hx; cases h; exact ⟨_, _, _, rfl, hx, rfl, rfl⟩
    · cases h
  · (repeat' split at h) <;> cases h
theorem inv_block {id : Nat} {a : DC} (h : compileC P nt c = .block id a) : ∃ x, c = .block id x ∧ compileC P nt x = a := by
  cases c <;> simp only [compileC] at h <;> first | (cases h; exact ⟨_, rfl, rfl⟩) | cases h | (repeat' split at h) <;> cases h
theorem inv_loop {a : DC} (h : compileC P nt c = .loop a) : ∃ x, c = .loop x ∧ compileC P nt x = a := by
  cases c <;> simp only [compileC] at h <;> first | (cases h; exact ⟨_, rfl, rfl⟩) | cases h | (repeat' split at h) <;> cases h
theorem inv_region {draw : Bool} {rs : List RO} (h : compileC P nt c = .region draw rs) : ∃ id ops, c = .region id ops draw ∧ compileROs P ops = some rs ∧ regionOk nt draw rs = true := by
  cases c <;> simp only [compileC] at h <;> first | (cases h; done) | skip
  case region id ops dr =>
    split at h
    · rename_i hrs
      split at h
      · rename_i hok; cases h; exact ⟨_, _, rfl, hrs, hok⟩
      · split at h <;> cases h
    · (repeat' split at h) <;> cases h
  case cond => split at h <;> cases h
  case rangeFunc => (repeat' split at h) <;> cases h
theorem inv_regionT {rs : List RO} (h : compileC P nt c = .regionT rs) : ∃ id ops, c = .region id ops true ∧ compileROs P ops = some rs := by
  cases c <;> simp only [compileC] at h <;> first | (cases h; done) | skip
  case region id ops dr =>
    split at h
    · rename_i hrs
      split at h
      · cases h
      · split at h
        · rename_i hd; cases h
          simp only [Bool.and_eq_true] at hd
          exact ⟨_, _, by rw [hd.1], hrs⟩
        · cases h
    · (repeat' split at h) <;> cases h
  case cond => split at h <;> cases h
  case rangeFunc => (repeat' split at h) <;> cases h
end

theorem inv_nextR {P : Program} {nt : Nat} {c : Code} {x : Opd} {d1 d2 : Nat} (h : compileC P nt c = .nextR x d1 d2) : ∃ id o1 o2 y, c = .region id #[o1, o2] false ∧ o1.op = .next y false ∧ Opd.of y = some x ∧ o1.dst = some d1 ∧ o1.guard = none ∧ o2.op = .extract (.tmp d1) 0 ∧ o2.dst = some d2 ∧ o2.guard = none ∧ d1 < nt ∧ d2 < nt := by
  cases c <;> simp only [compileC] at h <;> first | (cases h; done) | skip
  case region id ops dr =>
    split at h
    · split at h
      · cases h
      · split at h <;> cases h
    · split at h
      · cases h
      · rename_i hdr
        have hdr : dr = false := by simpa using hdr
        subst hdr
        split at h
        · rename_i q hq
          split at h
          · rename_i hlt
            cases h
            unfold asNext at hq
            split at hq
            · rename_i o1 o2 hops
              split at hq
              · rename_i y t e1 e2 h1 h2 h3 h4 h5 h6
                split at hq
                · rename_i hte
                  subst hte
                  simp only [Option.map_eq_some_iff] at hq
                  obtain ⟨z, hz, rfl⟩ := hq
                  exact ⟨id, o1, o2, y, by rw [show ops = #[o1, o2] by rw [← Array.toArray_toList (xs := ops), hops]], h1, hz, h3, h5, h2, h4, h6, hlt.1, hlt.2⟩
                · cases hq
              · cases hq
            · cases hq
          · cases h
        · cases h
  case cond => split at h <;> cases h
  case rangeFunc => (repeat' split at h) <;> cases h

theorem compile_bareD {P : Program} {o : Oper} {d : DOp} (h : compileOp P o = some d) : bareD d = d := by
  cases d <;> first | rfl | skip
  case mkSliceB => exact (no_mkB h).elim
  case callS =>
    obtain ⟨c, _, hc⟩ := compile_call h (.inr (.inl ⟨_, _, rfl⟩))
    exfalso
    unfold compileCall at hc
    repeat' split at hc
    all_goals first
      | (cases hc; done)
      | (simp only [Option.map_eq_some_iff, Option.pure_def, Option.bind_eq_bind, Option.bind_eq_some_iff, Option.some.injEq, reduceCtorEq, and_false, exists_false] at hc; done)
  case callF =>
    obtain ⟨c, _, hc⟩ := compile_call h (.inr (.inr (.inr (.inl ⟨_, _, rfl⟩))))
    exfalso
    unfold compileCall at hc
    repeat' split at hc
    all_goals first
      | (cases hc; done)
      | (simp only [Option.map_eq_some_iff, Option.pure_def, Option.bind_eq_bind, Option.bind_eq_some_iff, Option.some.injEq, reduceCtorEq, and_false, exists_false] at hc; done)
  case callR =>
    obtain ⟨c, _, hc⟩ := compile_call h (.inr (.inr (.inr (.inr ⟨_, _, rfl⟩))))
    exfalso
    unfold compileCall at hc
    repeat' split at hc
    all_goals first
      | (cases hc; done)
      | (simp only [Option.map_eq_some_iff, Option.pure_def, Option.bind_eq_bind, Option.bind_eq_some_iff, Option.some.injEq, reduceCtorEq, and_false, exists_false] at hc; done)
theorem compileRO_bare {P : Program} {ops : Array Oper} {o : Oper} {r : RO} (h : compileRO P ops o = some r) : bare r = r := by
  simp only [compileRO, Option.pure_def, Option.bind_eq_bind, Option.bind_eq_some_iff, Option.some.injEq] at h
  obtain ⟨d, hd, g, hg, rfl⟩ := h
  simp only [bare, compile_bareD hd]
theorem compileROs_bare {P : Program} {ops : Array Oper} {rs : List RO} (h : compileROs P ops = some rs) : rs.map bare = rs := by
  unfold compileROs at h
  have key : ∀ (l : List Oper) (rs : List RO), l.mapM (compileRO P ops) = some rs → rs.map bare = rs := by
    intro l
    induction l with
    | nil => intro rs h; simp at h; subst h; rfl
    | cons o l ih =>
      intro rs h
      simp only [List.mapM_cons, Option.pure_def, Option.bind_eq_bind, Option.bind_eq_some_iff, Option.some.injEq] at h
      obtain ⟨r, hr, rs', hrs, rfl⟩ := h
      simp only [List.map_cons, compileRO_bare hr, ih rs' hrs]
  exact key _ _ h

/-- A region's operations with words on what they touch. -/
def annot : List RO → List (Option (List Nat)) → List RO
  | r :: rs, t :: ts => ⟨r.d, r.dst, r.guard, r.after, t⟩ :: annot rs ts
  | rs, _ => rs

/-- The state describes the frame and the world. -/
structure Rel (κ : Ctx) (nt : Nat) (st : DSt) (a : Act) (w : World) (L : Loc) : Prop where
  r : RelR κ nt ⟨st.tmps, st.objs, st.todo⟩ a w L
  fresh : ∀ r, st.nxt ≤ r → st.objs r = none
  low : ∀ r, st.low ≤ r → κ.go r = none
  it : κ.J.isSome = true → st.low = 0

/-- The code comes to a state that meets Q. -/
def Sat (P : Program) (nt : Nat) (c : Code) (Q : Exit → DSt → Prop) (st : DSt) : Prop :=
  ∀ (n : Nat) (κ : Ctx) (a : Act) (w : World) (L : Loc), κ.Good P → Rel κ nt st a w L →
    c.wpIn (wideR κ.ro) n P (fun e a' w' => ∃ st' L', Q e st' ∧ Rel κ nt st' a' w' L') a w

/-- The same of code that reads so. -/
structure SatD (P : Program) (nt : Nat) (d : DC) (Q : Exit → DSt → Prop) (st : DSt) : Prop where
  run : ∀ c, compileC P nt c = d → Sat P nt c Q st

/-- What the one state describes the other describes. -/
def Le (st st' : DSt) : Prop := ∀ (κ : Ctx) (nt : Nat) (a : Act) (w : World) (L : Loc), Rel κ nt st a w L → ∃ L', Rel κ nt st' a w L'

theorem Le.refl (st : DSt) : Le st st := fun _ _ _ _ L h => ⟨L, h⟩
theorem Le.trans {a b c : DSt} (h : Le a b) (k : Le b c) : Le a c := fun _ _ _ _ L r => let ⟨_, r'⟩ := h _ _ _ _ L r; k _ _ _ _ _ r'

section
variable {P : Program} {nt : Nat} {Γ : Env} {Q : Exit → DSt → Prop} {st : DSt}

theorem Sat.le {c : Code} {st' : DSt} (h : Le st st') (k : Sat P nt c Q st') : Sat P nt c Q st := fun n κ a w L g r => let ⟨L', r'⟩ := h _ _ _ _ L r; k n κ a w L' g r'
theorem SatD.le {d : DC} {st' : DSt} (h : Le st st') (k : SatD P nt d Q st') : SatD P nt d Q st := ⟨fun c hc => Sat.le h (k.run c hc)⟩
theorem Sat.mono {c : Code} {Q' : Exit → DSt → Prop} (h : Sat P nt c Q st) (hq : ∀ e st, Q e st → Q' e st) : Sat P nt c Q' st :=
  fun n κ a w L g r => wpIn_mono (h n κ a w L g r) fun _ _ _ ⟨st', L', q, r'⟩ => ⟨st', L', hq _ _ q, r'⟩
theorem SatD.mono {d : DC} {Q' : Exit → DSt → Prop} (h : SatD P nt d Q st) (hq : ∀ e st, Q e st → Q' e st) : SatD P nt d Q' st := ⟨fun c hc => Sat.mono (h.run c hc) hq⟩
/-- At the end, too, a state may be told by less. -/
theorem SatD.mono_le {d : DC} {Q' : Exit → DSt → Prop} (h : SatD P nt d Q st) (hq : ∀ e st, Q e st → ∃ st2, Le st st2 ∧ Q' e st2) : SatD P nt d Q' st :=
  ⟨fun c hc n κ a w L g r => wpIn_mono (h.run c hc n κ a w L g r) fun _ _ _ ⟨_, L', q, r'⟩ => let ⟨st2, hl, q2⟩ := hq _ _ q; let ⟨L2, r2⟩ := hl _ _ _ _ L' r'; ⟨st2, L2, q2, r2⟩⟩

theorem SatD.skip (h : Q .normal st) : SatD P nt .skip Q st := by
  refine ⟨fun c hc => ?_⟩
  obtain rfl := inv_skip hc
  exact fun n κ a w L g r => wpIn_skip ⟨st, L, h, r⟩
theorem SatD.exit {id : Nat} (h : Q (.exit id) st) : SatD P nt (.exit id) Q st := by
  refine ⟨fun c hc => ?_⟩
  obtain rfl := inv_exit hc
  exact fun n κ a w L g r => wpIn_exit ⟨st, L, h, r⟩
theorem SatD.ret (h : Q .ret st) : SatD P nt .ret Q st := by
  refine ⟨fun c hc => ?_⟩
  obtain rfl := inv_ret hc
  exact fun n κ a w L g r => wpIn_ret ⟨st, L, h, r⟩

def thenQ (k : DSt → Prop) (Q : Exit → DSt → Prop) : Exit → DSt → Prop
  | .normal, st => k st
  | e, st => Q e st

theorem SatD.seq {a b : DC} (h : SatD P nt a (thenQ (SatD P nt b Q) Q) st) : SatD P nt (.seq a b) Q st := by
  refine ⟨fun c hc => ?_⟩
  obtain ⟨a', b', rfl, ha, hb⟩ := inv_seq hc
  intro n κ act w L g r
  refine wpIn_seq (wpIn_mono (h.run _ ha n κ act w L g r) ?_)
  rintro e a' w' ⟨st', L', q, r'⟩
  cases e with
  | normal => exact q.run _ hb n κ a' w' L' g r'
  | _ => exact ⟨st', L', q, r'⟩

theorem SatD.cond {x : Opd} {a b : DC} {t : Bool} (hx : x.ev st.tmps = .v (.bool t)) (ht : t = true → SatD P nt a Q st) (hf : t = false → SatD P nt b Q st) : SatD P nt (.cond x a b) Q st := by
  refine ⟨fun c hc => ?_⟩
  obtain ⟨x', a', b', rfl, hx', ha, hb⟩ := inv_cond hc
  intro n κ act w L g r
  obtain ⟨W, base, M, w0, hat, h0⟩ := r.r.ex
  have := Opd.of_rel h0.o.gl h0.tmps hx'
  rw [hx] at this
  simp only [RelD, RelT] at this
  cases t with
  | true => exact wpIn_cond_true this ((ht rfl).run _ ha n κ act w L g r)
  | false => exact wpIn_cond_false this ((hf rfl).run _ hb n κ act w L g r)

def blockQ (id : Nat) (Q : Exit → DSt → Prop) : Exit → DSt → Prop
  | .exit id', st => if id' = id then Q .normal st else Q (.exit id') st
  | e, st => Q e st

theorem SatD.block {id : Nat} {a : DC} (h : SatD P nt a (blockQ id Q) st) : SatD P nt (.block id a) Q st := by
  refine ⟨fun c hc => ?_⟩
  obtain ⟨a', rfl, ha⟩ := inv_block hc
  intro n κ act w L g r
  refine wpIn_block (wpIn_mono (h.run _ ha n κ act w L g r) ?_)
  rintro e a' w' ⟨st', L', q, r'⟩
  cases e with
  | exit id' =>
    simp only [blockQ] at q
    simp only [Exit.inBlock]
    split at q
    · rename_i h; rw [if_pos h]; exact ⟨st', L', q, r'⟩
    · rename_i h; rw [if_neg h]; exact ⟨st', L', q, r'⟩
  | _ => exact ⟨st', L', q, r'⟩

/-- A loop: what holds of the state at each round's head, told by a value of any type; a measure that goes down. -/
theorem SatD.loop {α : Type} {body : DC} (R : α → DSt) (I : α → Prop) (μ : α → Nat) (x : α) (h0 : Le st (R x)) (hI : I x)
    (round : ∀ y, I y → SatD P nt body (thenQ (fun st' => ∃ z, Le st' (R z) ∧ I z ∧ μ z < μ y) Q) (R y)) : SatD P nt (.loop body) Q st := by
  refine ⟨fun c hc => ?_⟩
  obtain ⟨a', rfl, ha'⟩ := inv_loop hc
  intro n κ act w L g r
  obtain ⟨L0, r0⟩ := h0 _ _ _ _ L r
  refine wpIn_loop_ghost (fun k a w => ∃ y L, μ y = k ∧ I y ∧ Rel κ nt (R y) a w L) (μ x) ⟨x, L0, rfl, hI, r0⟩ ?_
  rintro k a w ⟨y, L, rfl, hy, hr⟩
  refine wpIn_mono ((round y hy).run _ ha' n κ a w L g hr) ?_
  rintro e a' w' ⟨st', L', q, r'⟩
  cases e with
  | normal =>
    obtain ⟨z, hle, hz, hlt⟩ := q
    obtain ⟨L2, r2⟩ := hle _ _ _ _ L' r'
    exact ⟨μ z, hlt, z, L2, rfl, hz, r2⟩
  | _ => exact ⟨st', L', q, r'⟩

theorem high_run (hΓ : EnvOk P Γ) {nxt : Nat} : ∀ (rs : List RO), rs.all (roOk nt) = true → ∀ (st : RS), runOk Γ nxt rs st → ∀ t, nxt + nt + 1 ≤ t → st.objs t = none → (runSt Γ nxt rs st).objs t = none
  | [], _, st, _, t, _, h => h
  | r :: rs, hall, st, hok, t, ht, h => by
    simp only [List.all_cons, Bool.and_eq_true] at hall
    simp only [runOk] at hok
    refine high_run hΓ rs hall.2 _ hok.2 t ht (step_none hΓ hok.1 h fun hl e => ?_)
    have hr := hall.1
    simp only [roOk, Bool.and_eq_true] at hr
    have hs : r.dst.isSome = true := by simpa [laysOk, hl] using hr.1.2
    obtain ⟨d, hd⟩ := Option.isSome_iff_exists.1 hs
    have hlt : d < nt := by have := hr.2; rw [hd] at this; simpa using this
    simp only [nm, nameOf, hd] at e
    omega

theorem region_any (hΓ : EnvOk P Γ) (hm : P.follows .mixedOrders = true) {id : Nat} {ops : Array Oper} {draw : Bool} {rs : List RO} (hrs : compileROs P ops = some (rs.map bare)) (hok : regionOk nt draw rs = true)
    (hrun : runOk Γ st.nxt rs ⟨st.tmps, st.objs, st.todo⟩) (hQ : Q .normal ⟨(runSt Γ st.nxt rs ⟨st.tmps, st.objs, st.todo⟩).tmps, (runSt Γ st.nxt rs ⟨st.tmps, st.objs, st.todo⟩).objs, st.nxt + nt + 1, st.low, (runSt Γ st.nxt rs ⟨st.tmps, st.objs, st.todo⟩).todo⟩) :
    Sat P nt (.region id ops draw) Q st := by
  intro n κ act w L g r
  have hname : ∀ x ∈ rs, ∃ k, nm st.nxt x = st.nxt + k := fun x _ => by
    unfold nm nameOf
    cases x.dst with
    | none => exact ⟨0, rfl⟩
    | some d => exact ⟨d + 1, by simp only [Nat.add_assoc]⟩
  have hf : FreeAll st.nxt rs ⟨st.tmps, st.objs, st.todo⟩ := ⟨r.fresh _ (Nat.le_refl _), fun x hx => by
    obtain ⟨k, hk⟩ := hname x hx
    rw [hk]
    exact r.fresh _ (by omega)⟩
  have fin : ∀ a' w' L', RelR κ nt (runSt Γ st.nxt rs ⟨st.tmps, st.objs, st.todo⟩) a' w' L' → ∃ st' L', Q .normal st' ∧ Rel κ nt st' a' w' L' := by
    intro a' w' L' r'
    refine ⟨_, L', hQ, r', ?_, r.low, r.it⟩
    have hall : rs.all (roOk nt) = true := by simp only [regionOk, Bool.and_eq_true] at hok; exact hok.1.1
    intro t ht
    exact high_run hΓ rs hall _ hrun t ht (r.fresh t (by simp only at ht; omega))
  cases draw with
  | false => exact region_text hΓ g hrs hok r.r hf hrun fin
  | true => exact region_draw hΓ g hm hrs hok r.r hf hrun fin

/-- A region. -/
theorem SatD.region (hΓ : EnvOk P Γ) (hm : P.follows .mixedOrders = true) {draw : Bool} {rs : List RO} (hrun : runOk Γ st.nxt rs ⟨st.tmps, st.objs, st.todo⟩) (hQ : Q .normal ⟨(runSt Γ st.nxt rs ⟨st.tmps, st.objs, st.todo⟩).tmps, (runSt Γ st.nxt rs ⟨st.tmps, st.objs, st.todo⟩).objs, st.nxt + nt + 1, st.low, (runSt Γ st.nxt rs ⟨st.tmps, st.objs, st.todo⟩).todo⟩) :
    SatD P nt (.region draw rs) Q st := by
  refine ⟨fun c hc => ?_⟩
  obtain ⟨id, ops, rfl, hrs, hok⟩ := inv_region hc
  exact region_any hΓ hm (by rw [compileROs_bare hrs]; exact hrs) hok hrun hQ

/-- A region told with words on what its operations touch, and on which calls may write. -/
theorem SatD.regionA (hΓ : EnvOk P Γ) (hm : P.follows .mixedOrders = true) {d : DC} {rs : List RO} (hd : d = .regionT (rs.map bare) ∨ ∃ draw, d = .region draw (rs.map bare)) (hok : regionOk nt true rs = true)
    (hrun : runOk Γ st.nxt rs ⟨st.tmps, st.objs, st.todo⟩) (hQ : Q .normal ⟨(runSt Γ st.nxt rs ⟨st.tmps, st.objs, st.todo⟩).tmps, (runSt Γ st.nxt rs ⟨st.tmps, st.objs, st.todo⟩).objs, st.nxt + nt + 1, st.low, (runSt Γ st.nxt rs ⟨st.tmps, st.objs, st.todo⟩).todo⟩) :
    SatD P nt d Q st := by
  refine ⟨fun c hc => ?_⟩
  rcases hd with rfl | ⟨draw, rfl⟩
  · obtain ⟨id, ops, rfl, hrs⟩ := inv_regionT hc
    exact region_any hΓ hm hrs hok hrun hQ
  · obtain ⟨id, ops, rfl, hrs, hok'⟩ := inv_region hc
    refine region_any hΓ hm hrs ?_ hrun hQ
    cases draw with
    | true => exact hok
    | false => simp only [regionOk, Bool.and_eq_true] at hok ⊢; exact ⟨hok.1, rfl⟩

/-- One step of a loop over a map that stands as when the loop began: none is left, or any that is left comes next. -/
theorem SatD.next {x : Opd} {d1 d2 r m s l c : Nat} {sn : List Nat} {shs : List Sh} {agg : Bool} {es : List (Nat × T × DV)} (hx : x.ev st.tmps = .iter r) (hr : st.objs r = some (.iter m s sn l)) (hm : st.objs m = some (.map shs agg c es)) (hlt : ∀ e ∈ es, e.1 < s) (hl : s ≤ l)
    (hdone : (∀ e ∈ es, e.1 ∈ sn) → Q .normal ⟨updT (updT st.tmps (some d1) .undef) (some d2) (.v (.bool false)), st.objs, st.nxt, st.low, st.todo⟩)
    (hgo : ∀ e ∈ es, e.1 ∉ sn → Q .normal ⟨updT (updT st.tmps (some d1) .undef) (some d2) (.v (.bool true)), putO st.objs (some (r, .iter m s (sn ++ [e.1]) c)), st.nxt, st.low, st.todo⟩) :
    SatD P nt (.nextR x d1 d2) Q st := by
  refine ⟨fun cc hc => ?_⟩
  obtain ⟨id, o1, o2, y, rfl, h1, hy, h2, h3, h4, h5, h6, hd1, hd2⟩ := inv_nextR hc
  intro n κ a w L g r0
  refine wpIn_region ?_
  have hR := r0.r
  obtain ⟨W, base, M, w0, hat, h0⟩ := hR.ex
  have hxr := Opd.of_rel h0.o.gl h0.tmps hy
  rw [hx] at hxr
  simp only [RelD] at hxr
  obtain ⟨_, hxv⟩ := hxr
  have fin : ∀ {b : Bool} {objs' : Obs} {v : Value} {w' : World}, RelO base W M w0 objs' w' L → Adv W st.objs L w objs' L w' → (∃ N, ∀ r, N ≤ r → objs' r = none) → (∀ t, st.objs t = none → objs' t = none) → (∃ rest : List Value, v = .tuple (Value.bool b :: rest).toArray) → (execOp a.eval o1).run P w = .ok (.value v) w' →
      Q .normal ⟨updT (updT st.tmps (some d1) .undef) (some d2) (.v (.bool b)), objs', st.nxt, st.low, st.todo⟩ →
      wpOpsIn (wideR κ.ro) n P #[o1, o2] (fun e a' w' => ∃ st' L', Q e st' ∧ Rel κ nt st' a' w' L') (List.range 2) a w := by
    intro b objs' v w' hO hA hfin hnone hv hrun hQ
    obtain ⟨rest, rfl⟩ := hv
    show wpOpsIn (wideR κ.ro) n P #[o1, o2] _ [0, 1] a w
    rw [wpOpsIn_cons, wpOpIn]
    simp only [show (#[o1, o2] : Array Oper)[0]? = some o1 from rfl, Region.wanted, h3, if_true]
    refine ⟨about_wide o1 w _, ?_⟩
    rw [show (wideR κ.ro).round = κ.ro from rfl, Oper.semAt_eq κ.ro _ o1 (fun c hc => by rw [h1] at hc; cases hc), hrun, Oper.uponIn_value, h2]
    have R1 : RelR κ nt ⟨updT st.tmps (some d1) .undef, objs', st.todo⟩ (a.put (some d1) (.tuple (Value.bool b :: rest).toArray)) w' L := RelR.put hR hat h0 (some d1) (fun d hd => by cases hd; exact hd1) hO hA (by simp [RelD]) hfin
    rw [wpOpsIn_cons, wpOpIn]
    simp only [show (#[o1, o2] : Array Oper)[1]? = some o2 from rfl, Region.wanted, h6, if_true]
    refine ⟨about_wide o2 w' _, ?_⟩
    have hev : (a.put (some d1) (.tuple (Value.bool b :: rest).toArray)).eval (.tmp d1) = .tuple (Value.bool b :: rest).toArray := by
      simp only [Act.put, Act.eval]
      rw [getD_put _ _ _ _ (by rw [h0.size]; exact hd1)]
      simp
    have hrun2 : (execOp (a.put (some d1) (.tuple (Value.bool b :: rest).toArray)).eval o2).run P w' = .ok (.value (.bool b)) w' := by
      simp [execOp, h4, hev, Instr.extract]
    rw [show (wideR κ.ro).round = κ.ro from rfl, Oper.semAt_eq κ.ro _ o2 (fun c hc => by rw [h4] at hc; cases hc), hrun2, Oper.uponIn_value, h5]
    obtain ⟨W2, base2, M2, w02, hat2, h02⟩ := R1.ex
    have R2 := RelR.put R1 hat2 h02 (some d2) (fun d hd => by cases hd; exact hd2) (v := .v (.bool b)) (x := .bool b) h02.o (Adv.refl_of_keeps (Keeps.refl _ _)) (by simp [RelD, RelT]) hfin
    exact ⟨_, L, hQ, R2, fun t ht => hnone t (r0.fresh t ht), r0.low, r0.it⟩
  rcases next_sound (P := P) h0.o hr hm hlt hl o1.type with ⟨hall, hrun⟩ | ⟨e, he, hn, k, v, w', hrun, hO, hA⟩
  · refine fin (b := false) h0.o (Adv.refl_of_keeps (Keeps.refl _ _)) hR.fin (fun t h => h) ⟨[], rfl⟩ ?_ (hdone hall)
    simp [execOp, h1, hxv, hrun]
  · refine fin (b := true) hO hA ?_ ?_ ⟨[k, v], rfl⟩ ?_ (hgo e he hn)
    · obtain ⟨N, hN⟩ := hR.fin
      refine ⟨max N (r + 1), fun r' hr' => ?_⟩
      simp only [putO]
      rw [if_neg (by omega)]
      exact hN r' (by omega)
    · intro t ht
      simp only [putO]
      rw [if_neg (fun e => by rw [e, hr] at ht; cases ht)]
      exact ht
    · simp [execOp, h1, hxv, hrun]
end
end Go.DM
/- The D-machine, part O: functions. Conditions: none. -/
namespace Go.DM
open Go.RowKit
set_option linter.unusedSimpArgs false
set_option linter.unusedVariables false
set_option linter.unusedSectionVars false
variable [Laid]

/-- A result: a slot, or a variable that a slot points to. -/
inductive DRes where
  | slot (t : Nat)
  | cell (a n : Nat) (agg : Bool)

def resOf (P : Program) : ResultVar → Option DRes
  | .tmp t => some (.slot t)
  | .cell a t => match P.underlying t, P.info? t with
    | some d, some i => some (.cell a i.size (aggDesc d))
    | _, _ => none

def DRes.eff (st : DSt) : DRes → Eff
  | .slot t => ⟨True, st.tmps t, none⟩
  | .cell a n agg => loadSem n agg st.objs (st.tmps a)

def retOks (lend : Bool) (st : DSt) : List DRes → Prop
  | [] => True
  | r :: rs => ((r.eff st).ok ∧ tOk lend st.objs (r.eff st).val) ∧ retOks lend st rs
def retTs (st : DSt) (rs : List DRes) : List T := rs.map fun r => tOf st.objs (r.eff st).val

/-- What a function answers at its end. -/
def RetOk (rs : List DRes) (t : T) (st : DSt) : Prop :=
  retOks true st rs ∧ t = (match retTs st rs with | [x] => x | ts => .tup ts)
/-- The same of a function that may write. -/
def RetOkS (rs : List DRes) (r : SRes) (st : DSt) : Prop :=
  retOks false st rs ∧ st.objs = r.objs ∧ r.val = .v (match retTs st rs with | [x] => x | ts => .tup ts)

def argD : Option T → DV
  | some t => .v t
  | none => .skip
def initSt (ts : List T) : DSt := ⟨fun k => argD ts[k]?, fun _ => none, 1000, 1000, []⟩
def finQ (rs : List DRes) (t : T) : Exit → DSt → Prop
  | .normal, st | .ret, st => RetOk rs t st
  | _, _ => False
def finS (rs : List DRes) (r : SRes) : Exit → DSt → Prop
  | .normal, st | .ret, st => RetOkS rs r st
  | _, _ => False

section
variable {P : Program}

theorem res_run {base : Nat} {W M : Nat → Prop} {w0 w : World} {nt : Nat} {st : DSt} {a : Act} {L : Loc} (h : R0 base W M w0 nt st.tmps st.objs a w L) {lend : Bool} {W' : Nat → Prop} (hW : lend = true → ∀ r o b, st.objs r = some o → L.own r o = some b → ¬ W' b) (hW2 : ∀ b, W' b → WW W st.objs L b) {rv : ResultVar} {r : DRes} (hr : resOf P rv = some r) (hok : (r.eff st).ok ∧ tOk lend st.objs (r.eff st).val) :
    ∃ v, ((match rv with | .tmp t => pure (a.tmps.getD t Go.undef) | .cell b t => do loadVar t (← asAddr (a.tmps.getD b Go.undef))) : Sem Value).run P w = .ok v w ∧ RelT w W' (tOf st.objs (r.eff st).val) v := by
  have fin : ∀ {d : DV} {x : Value}, RelD w W st.objs L d x → tOk lend st.objs d → RelT w W' (tOf st.objs d) x := fun hd hk =>
    (tOf_relT (lend := lend) W' h.o hW hW2).1 _ _ hd hk
  cases rv with
  | tmp t =>
    simp only [resOf, Option.some.injEq] at hr
    subst hr
    exact ⟨_, rfl, fin (h.tmps t) hok.2⟩
  | cell b t =>
    simp only [resOf] at hr
    split at hr
    · rename_i d i hd hi
      simp only [Option.some.injEq] at hr
      subst hr
      simp only [DRes.eff] at hok
      obtain ⟨hp, v, hrun, hv⟩ := load_sound h.o hd hi (h.tmps b) hok.1
      refine ⟨v, ?_, fin hv hok.2⟩
      have hpt : ∃ p, a.tmps.getD b Go.undef = .pointer (some p) := by
        have hx := h.tmps b
        have ho := hok.1
        cases hq : st.tmps b with
        | ptr r off => rw [hq] at hx; simp only [RelD] at hx; exact ⟨_, hx.2⟩
        | tptr rows j off => rw [hq] at hx; simp only [RelD] at hx; obtain ⟨_, _, _, hx, _⟩ := hx; exact ⟨_, hx⟩
        | bptr cs off => rw [hq] at hx; simp only [RelD] at hx; obtain ⟨_, _, hx, _⟩ := hx; exact ⟨_, hx⟩
        | aptr r ver j off => rw [hq] at hx; simp only [RelD] at hx; obtain ⟨⟨_, _, hx⟩, _⟩ := hx; exact ⟨_, hx⟩
        | v t' =>
          rw [hq] at hx ho
          cases t' with
          | box cs => simp only [RelD, RelT] at hx; obtain ⟨_, _, hx, _⟩ := hx; exact ⟨_, hx⟩
          | _ => exact ho.elim
        | _ => rw [hq] at ho; exact ho.elim
      obtain ⟨p, hp⟩ := hpt
      show Sem.run P (do loadVar t (← asAddr (a.tmps.getD b Go.undef))) w = _
      rw [hp] at hrun ⊢
      simpa [Instr.loadAt, Instr.sureAddr, asAddr] using hrun
    · cases hr

theorem res_all {base : Nat} {W M : Nat → Prop} {w0 w : World} {nt : Nat} {st : DSt} {a : Act} {L : Loc} (h : R0 base W M w0 nt st.tmps st.objs a w L) {lend : Bool} {W' : Nat → Prop} (hW : lend = true → ∀ r o b, st.objs r = some o → L.own r o = some b → ¬ W' b) (hW2 : ∀ b, W' b → WW W st.objs L b) : ∀ {rvs : List ResultVar} {rs : List DRes}, rvs.mapM (resOf P) = some rs → retOks lend st rs →
    ∃ vs, (rvs.mapM (fun rv => ((match rv with | .tmp t => pure (a.tmps.getD t Go.undef) | .cell b t => do loadVar t (← asAddr (a.tmps.getD b Go.undef))) : Sem Value))).run P w = .ok vs w ∧ RelA w W' (retTs st rs) vs
  | [], rs, hr, _ => by simp at hr; subst hr; exact ⟨[], by simp, by simp [retTs, RelA]⟩
  | rv :: rvs, rs, hr, hok => by
    simp only [List.mapM_cons, Option.pure_def, Option.bind_eq_bind, Option.bind_eq_some_iff, Option.some.injEq] at hr
    obtain ⟨r, hr1, rs', hrs, rfl⟩ := hr
    simp only [retOks] at hok
    obtain ⟨v, h1, h2⟩ := res_run h hW hW2 hr1 hok.1
    obtain ⟨vs, h3, h4⟩ := res_all h hW hW2 hrs hok.2
    refine ⟨v :: vs, ?_, ?_⟩
    · rw [List.mapM_cons]
      simp only [Sem.run_bind, h1, Result.andThen_ok, h3, Sem.run_pure]
    · simp only [retTs, List.map_cons, RelA]
      exact ⟨v, vs, rfl, h2, h4⟩

theorem results_run {base : Nat} {W M : Nat → Prop} {w0 w : World} {nt : Nat} {st : DSt} {a : Act} {L : Loc} (h : R0 base W M w0 nt st.tmps st.objs a w L) {lend : Bool} {W' : Nat → Prop} (hW : lend = true → ∀ r o b, st.objs r = some o → L.own r o = some b → ¬ W' b) (hW2 : ∀ b, W' b → WW W st.objs L b) {fn : Func} {rs : List DRes} (hr : fn.results.toList.mapM (resOf P) = some rs) {t : T} (hok : retOks lend st rs ∧ t = (match retTs st rs with | [x] => x | ts => .tup ts)) :
    ∃ v, (results fn a.tmps).run P w = .ok v w ∧ RelT w W' t v := by
  obtain ⟨h1, rfl⟩ := hok
  obtain ⟨vs, h2, h3⟩ := res_all h hW hW2 hr h1
  have hm : (fn.results.mapM (fun rv => ((match rv with | .tmp t => pure (a.tmps.getD t Go.undef) | .cell b t => do loadVar t (← asAddr (a.tmps.getD b Go.undef))) : Sem Value))).run P w = .ok vs.toArray w := by
    rw [Array.mapM_eq_mapM_toList]
    simp only [Sem.run_map, h2, Result.andThen_ok]
  have hl : vs.length = (retTs st rs).length := RelA.length h3
  refine ⟨if h : vs.toArray.size = 1 then vs.toArray[0] else .tuple vs.toArray, ?_, ?_⟩
  · have hrr : (results fn a.tmps) = (do
      let vs ← fn.results.mapM (fun rv => ((match rv with | .tmp t => pure (a.tmps.getD t Go.undef) | .cell b t => do loadVar t (← asAddr (a.tmps.getD b Go.undef))) : Sem Value))
      pure (if h : vs.size = 1 then vs[0] else .tuple vs)) := rfl
    rw [hrr]
    simp only [Sem.run_bind, hm, Result.andThen_ok, Sem.run_pure]
  · cases hts : retTs st rs with
    | nil =>
      rw [hts] at hl h3
      have : vs = [] := List.eq_nil_of_length_eq_zero (by simpa using hl)
      subst this
      simp only [RelT]
      exact ⟨#[], by simp, by simp [RelA]⟩
    | cons x xs =>
      rw [hts] at hl h3
      cases xs with
      | nil =>
        simp only [RelA] at h3
        obtain ⟨v, vs', rfl, hv, rfl⟩ := h3
        simpa using hv
      | cons y ys =>
        have : vs.toArray.size ≠ 1 := by simp at hl ⊢; omega
        rw [dif_neg this]
        simp only [RelT]
        exact ⟨_, rfl, by simpa using h3⟩

/-- A reading stays where the cells stay. -/
theorem relD_keepC {W : Nat → Prop} {objs : Obs} {L : Loc} {w w' : World} (hkc : KeepsC (WW W objs L) w w') : ∀ n, (∀ (d : DV) (x : Value), SizeOf.sizeOf d < n → RelD w W objs L d x → RelD w' W objs L d x) ∧ (∀ (ds : List DV) (xs : List Value), SizeOf.sizeOf ds < n → RelDs w W objs L ds xs → RelDs w' W objs L ds xs) ∧ (∀ (ds : List DV) (xs : List Value), SizeOf.sizeOf ds < n → RelDa w W objs L ds xs → RelDa w' W objs L ds xs) := by
  have hsub : ∀ b, b < w.heap.size → WW W objs L b → WW W objs L b := fun _ _ h => h
  intro n
  induction n with
  | zero => exact ⟨fun _ _ h => by omega, fun _ _ h => by omega, fun _ _ h => by omega⟩
  | succ n ih =>
    refine ⟨fun d x hn hx => ?_, fun ds xs hn hx => ?_, fun ds xs hn hx => ?_⟩
    · cases d with
      | v t => simp only [RelD] at hx ⊢; exact RelT.keep hkc hsub t x hx
      | tup cs =>
        simp only [RelD] at hx ⊢
        obtain ⟨vs, hv, hr⟩ := hx
        exact ⟨vs, hv, ih.2.2 cs _ (by simp at hn ⊢; omega) hr⟩
      | clo f cs =>
        simp only [RelD] at hx ⊢
        obtain ⟨vs, hv, hr⟩ := hx
        exact ⟨vs, hv, ih.2.1 cs _ (by simp at hn ⊢; omega) hr⟩
      | tptr rows i off =>
        simp only [RelD] at hx ⊢
        obtain ⟨b, o, sz, hx, hb, hn', hr, h1, h2⟩ := hx
        exact ⟨b, o, sz, hx, Nat.lt_of_lt_of_le hb hkc.size, hn', RelRows.keep hkc hsub hb hn' sz o rows hr, h1, h2⟩
      | bptr cs off =>
        simp only [RelD] at hx ⊢
        obtain ⟨b, o, hx, hb, hn', hr⟩ := hx
        exact ⟨b, o, hx, Nat.lt_of_lt_of_le hb hkc.size, hn', RelAt.keep hkc hsub hb hn' o cs hr⟩
      | agg cs =>
        simp only [RelD] at hx ⊢
        obtain ⟨vs, hv, hr⟩ := hx
        exact ⟨vs, hv, ih.2.1 cs _ (by simp at hn ⊢; omega) hr⟩
      | _ => exact hx
    · cases ds with
      | nil => simpa only [RelDs] using hx
      | cons d ds =>
        simp only [RelDs] at hx ⊢
        obtain ⟨y, ys, hv, h1, h2, h3⟩ := hx
        exact ⟨y, ys, hv, h1, ih.1 d y (by simp at hn ⊢; omega) h2, ih.2.1 ds ys (by simp at hn ⊢; omega) h3⟩
    · cases ds with
      | nil => simpa only [RelDa] using hx
      | cons d ds =>
        simp only [RelDa] at hx ⊢
        obtain ⟨y, ys, hv, h2, h3⟩ := hx
        exact ⟨y, ys, hv, ih.1 d y (by simp at hn ⊢; omega) h2, ih.2.2 ds ys (by simp at hn ⊢; omega) h3⟩

/-- A block that holds no cells is turned: the objects do not mind. -/
theorem putObj_cells {w : World} {l : Nat} {o o' : Obj} (hl : w.heap[l]? = some o) (hnc : ¬ Obj.plain o) : ∀ (b : Nat) x, Obj.plain x → w.heap[b]? = some x → (w.putObj l o').heap[b]? = some x := fun b x hx hb => by
  rw [World.putObj_heap_other (by rintro rfl; rw [hl] at hb; cases hb; exact hnc hx)]; exact hb
theorem relO_put {base : Nat} {W M : Nat → Prop} {w0 w : World} {objs : Obs} {L : Loc} (h : RelO base W M w0 objs w L) {l : Nat} {o o' : Obj} (hl : w.heap[l]? = some o) (hnc : ¬ Obj.plain o) (hb : base ≤ l) :
    RelO base W M w0 objs (w.putObj l o') L := by
  have hsz : (w.putObj l o').heap.size = w.heap.size := by simp [World.putObj]
  have hcells := putObj_cells (o' := o') hl hnc
  have hkc : KeepsC (WW W objs L) w (w.putObj l o') := ⟨by rw [hsz]; exact Nat.le_refl _, fun b c e fr hb _ => hcells b _ trivial hb⟩
  have f := h.fr
  refine ⟨⟨f.os, f.tape, f.output, f.size0, by rw [hsz]; exact f.size, fun k hk hm => ?_, f.drawn⟩, fun r o ho => ?_, h.apart, h.outer, h.under, h.gl.keep hkc fun _ _ h => h⟩
  · rw [World.putObj_heap_other (by omega)]; exact f.block k hk hm
  · have hob := h.ob r o ho
    cases o with
    | box cs =>
      obtain ⟨c, e, hc, hr, hm⟩ := hob
      exact ⟨c, e, hcells _ _ trivial hc, (relD_keepC hkc (SizeOf.sizeOf cs + 1)).2.1 cs _ (by omega) hr, hm⟩
    | map shs agg c es =>
      obtain ⟨arr, hc, hr, k1, k2, k3, hm⟩ := hob
      refine ⟨arr, hcells _ _ trivial hc, ?_, k1, k2, k3, hm⟩
      have key : ∀ (es : List (Nat × T × DV)) (xs : List MapEntry), RelEs w W objs L es xs → RelEs (w.putObj l o') W objs L es xs := by
        intro es
        induction es with
        | nil => intro xs h; simpa only [RelEs] using h
        | cons e es ih =>
          intro xs h
          simp only [RelEs] at h ⊢
          obtain ⟨x, xs', hx, h1, h2, h3, h4⟩ := h
          exact ⟨x, xs', hx, h1, RelT.keep hkc (fun _ _ h => h) _ _ h2, (relD_keepC hkc (SizeOf.sizeOf e.2.2 + 1)).1 _ _ (by omega) h3, ih xs' h4⟩
      exact key es _ hr
    | iter m s sn lt =>
      obtain ⟨hc, hmp, hm⟩ := hob
      exact ⟨hcells _ _ trivial hc, hmp, hm⟩
    | arr ver e sz rows =>
      obtain ⟨g1, g2, g3, g4⟩ := hob
      refine ⟨g1, g2, g3, ?_⟩
      rcases g4 with g4 | ⟨g, cap, cur, hv, hp, hh, k1, k2, k3, k4⟩
      · exact .inl g4
      · exact .inr ⟨g, cap, cur, hv, hp, hcells _ _ trivial hh, k1, k2, k3, RelL.keep hkc (fun _ _ h => h) _ _ k4⟩

theorem shut_mark {κ : Ctx} {nt : Nat} {st : RS} {a : Act} {w : World} {L : Loc} (hJ : κ.J = none) (h : RelR κ nt st a w L) {D : Nat} {Ds : List Nat} (hd : a.defers = (D :: Ds).map mark) (hn : (D :: Ds).Nodup) (hk : ∀ D' ∈ D :: Ds, w.heap[D']? = some (.deferred (some [])) ∧ κ.gw.heap.size ≤ D') :
    RelR κ nt st { a with defers := Ds.map mark } (w.putObj D (.deferred none)) L := by
  obtain ⟨W, base, M, w0, hat, h0⟩ := h.ex
  have hD := hk D (List.mem_cons_self ..)
  have hlt := (Array.getElem?_eq_some_iff.1 hD.1).1
  have hoth : ∀ b, b ≠ D → (w.putObj D (.deferred none)).heap[b]? = w.heap[b]? := fun b hb => World.putObj_heap_other hb
  have hsz : (w.putObj D (.deferred none)).heap.size = w.heap.size := by simp [World.putObj]
  have hat' := hat
  unfold Ctx.At at hat'
  simp only [hJ] at hat'
  obtain ⟨_, rfl, rfl, rfl, rfl⟩ := hat'
  have hbD : κ.base ≤ D := Nat.le_trans (h.bg hJ) hD.2
  have hcells : ∀ (b : Nat) c e fr, w.heap[b]? = some (.cells c e fr) → (w.putObj D (.deferred none)).heap[b]? = some (.cells c e fr) := fun b c e fr hb => by
    rw [hoth b (by rintro rfl; rw [hD.1] at hb; cases hb)]; exact hb
  have hkc : KeepsC (WW κ.W st.objs L) w (w.putObj D (.deferred none)) := ⟨by rw [hsz]; exact Nat.le_refl _, fun b c e fr hb _ => hcells b c e fr hb⟩
  have kd : ∀ (d : DV) (x : Value), RelD w κ.W st.objs L d x → RelD (w.putObj D (.deferred none)) κ.W st.objs L d x := fun d x => (relD_keepC hkc (SizeOf.sizeOf d + 1)).1 d x (by omega)
  have hO : RelO κ.base κ.W κ.M κ.w0 st.objs (w.putObj D (.deferred none)) L := relO_put h0.o hD.1 (fun e => e) hbD
  refine ⟨⟨κ.W, κ.base, κ.M, κ.w0, hat, h0.size, fun t => kd _ _ (h0.tmps t), hO⟩, ?_, ⟨Ds, rfl, (List.nodup_cons.1 hn).2, fun D' hD' => ?_, fun h => by rw [hJ] at h; cases h⟩, h.bg, h.fin⟩
  · have had := h.adv
    refine ⟨⟨⟨by rw [hsz]; exact had.keeps.size, fun b c e fr hb hnw => hcells _ _ _ _ (had.keeps.blk b c e fr hb hnw)⟩, fun b hb => ?_, fun b r hb => ?_⟩, had.sub, had.fix, had.arr, had.yl⟩
    · rw [hoth b (by have := (Array.getElem?_eq_some_iff.1 hb).1; omega)]
      exact had.keeps.dfr b hb
    · rw [hoth b (by have := (Array.getElem?_eq_some_iff.1 hb).1; omega)]
      exact had.keeps.lps b r hb
  · have hne : D' ≠ D := fun e => (List.nodup_cons.1 hn).1 (e ▸ hD')
    have := hk D' (List.mem_cons_of_mem _ hD')
    exact ⟨by rw [hoth D' hne]; exact this.1, this.2⟩

/-- At a function's end the marks are taken, one behind another; then the results are read. -/
theorem leaves {κ : Ctx} {nt : Nat} {st : RS} {fn : Func} {R : Ending → World → Prop} (hJ : κ.J = none) (hR : ∀ (a : Act) (w : World) (L : Loc), RelR κ nt st a w L → ∃ v, (results fn a.tmps).run P w = .ok v w ∧ R (.returned v) w) :
    ∀ (Ds : List Nat) (a : Act) (w : World) (L : Loc), RelR κ nt st a w L → a.defers = Ds.map mark → Ds.Nodup → (∀ D ∈ Ds, w.heap[D]? = some (.deferred (some [])) ∧ κ.gw.heap.size ≤ D) →
      LeavesInM Fence.wide 0 P fn a.tmps R (Ds.map mark) .returning w
  | [], a, w, L, h, _, _, _ => by
    obtain ⟨v, h1, h2⟩ := hR a w L h
    exact ⟨v, h1, h2⟩
  | D :: Ds, a, w, L, h, hd, hn, hk => by
    refine ⟨by simp, .inl ⟨D, w.putObj D (.deferred none), rfl, run_takeDeferred (hk D (List.mem_cons_self ..)).1, ?_⟩⟩
    have h' := shut_mark hJ h hd hn hk
    obtain ⟨Ds', e1, _, e3, _⟩ := h'.defers
    have e : Ds' = Ds := by
      have hi : ∀ (l l' : List Nat), l.map mark = l'.map mark → l = l' := by
        intro l
        induction l with
        | nil => intro l' e; cases l' <;> simp_all
        | cons x l ih =>
          intro l' e
          cases l' with
          | nil => simp at e
          | cons y l' =>
            simp only [List.map_cons, List.cons.injEq, mark, Deferred.mk.injEq, Target.collected.injEq, and_true] at e
            rw [e.1, ih l' e.2]
      exact hi _ _ e1.symm
    subst e
    exact leaves hJ hR Ds' { a with defers := Ds'.map mark } _ L h' rfl (List.nodup_cons.1 hn).2 e3

/-- A function's code as the machine reads it. -/
def CodeOf (P : Program) (f : FuncId) (nt : Nat) (d : DC) (rs : List DRes) : Prop :=
  ∃ fn, P.funcs[f]? = some fn ∧ fn.ntmps = nt ∧ fn.body.map (compileC P nt) = some d ∧ fn.results.toList.mapM (resOf P) = some rs ∧ (fn.name == "runtime.NumGoroutine") = false

theorem CodeOf.entry {f : FuncId} {nt : Nat} {d : DC} {rs : List DRes} (h : CodeOf P f nt d rs) : Entry P f := by
  obtain ⟨fn, h1, _, h3, _, h5⟩ := h
  obtain ⟨c, h2, _⟩ := Option.map_eq_some_iff.1 h3
  exact ⟨fn, h1, by simpa using h5, by simp [h2]⟩

theorem init_get {n : Nat} {vals : Array Value} {k : Nat} {v : Value} (h : vals.toList[k]? = some v) : (vals ++ Array.replicate (n - vals.size) Go.undef).getD k Go.undef = v := by
  have hlt : k < vals.size := by have := (List.getElem?_eq_some_iff.1 h).1; simpa using this
  rw [Array.getD_eq_getD_getElem?, Array.getElem?_append_left hlt]
  simp only [Array.getElem?_toList] at h
  rw [h]; rfl
theorem init_none {n : Nat} {vals : Array Value} {k : Nat} (h : vals.size ≤ k) : (vals ++ Array.replicate (n - vals.size) Go.undef).getD k Go.undef = Go.undef := by
  rw [Array.getD_eq_getD_getElem?, Array.getElem?_append_right h, Array.getElem?_replicate]
  split <;> rfl

/-- A function's contract, out of its code. -/
theorem CodeOf.ok {f : FuncId} {nt : Nat} {d : DC} {rs : List DRes} (h : CodeOf P f nt d rs) {ts : List T} {t : T} (hlen : ts.length ≤ nt) (k : SatD P nt d (finQ rs t) (initSt ts)) : CallsOk P f ts t := by
  have hent := h.entry
  obtain ⟨fn, hfn, rfl, h3, hr, _⟩ := h
  obtain ⟨c, hb, hc⟩ := Option.map_eq_some_iff.1 h3
  refine ⟨hent, fun W w vals hW hg hrel => ?_⟩
  have hl := RelA.length hrel
  simp only [Array.length_toList] at hl
  have hrel0 : Rel ⟨W, fun _ => none, ⟨fun _ => 0, fun _ => Go.undef, 0⟩, w, w.heap.size, fun _ => False, w, none, none⟩ fn.ntmps (initSt ts) { tmps := vals ++ Array.replicate (fn.ntmps - vals.size) Go.undef, defers := [] } w ⟨fun _ => 0, fun _ => Go.undef, 0⟩ := by
    refine ⟨⟨⟨W, w.heap.size, fun _ => False, w, ⟨rfl, rfl, rfl, rfl, rfl⟩, by simp; omega, fun k => ?_, ⟨Fr.refl (Nat.le_refl _), (fun r o h => by cases h), (fun r r' o o' b _ h => by cases h), (fun r o b h => by cases h), hW, hg.start⟩⟩,
      Adv.refl_of_keeps (Keeps.refl _ _), ⟨[], rfl, List.nodup_nil, (fun _ h => by cases h), fun _ => rfl⟩, fun _ => Nat.le_refl _, ⟨0, fun _ _ => rfl⟩⟩, fun _ _ => rfl, fun _ _ => rfl, fun h => by cases h⟩
    simp only [initSt]
    cases hk : ts[k]? with
    | some x =>
      obtain ⟨v, hv, hv2⟩ := RelA.get hrel hk
      simp only [init_get hv, argD, RelD]
      refine RelT.keep (Keeps.refl W w).toKeepsC ?_ x v hv2
      rintro b hb (h | ⟨r, o, h, _⟩)
      · exact h
      · cases h
    | none =>
      have hge : vals.size ≤ k := by
        have := List.getElem?_eq_none_iff.1 hk
        omega
      simp only [argD, RelD, init_none hge]
  refine callsIn_wide.1 (callsIn_of_wp_marks (n := 0) hfn hb trivial ?_)
  refine wpIn_mono (k.run c hc 0 _ _ _ _ ⟨fun J hJ => (by cases hJ), fun l hl => (by cases hl)⟩ hrel0) ?_
  rintro e a' w' ⟨st', L', q, r'⟩
  have done : RetOk rs t st' → LeavesInM Fence.wide 0 P fn a'.tmps (fun e w' => ∃ v, e = .returned v ∧ BelD w.heap.size w w' ∧ RelT w' W t v) a'.defers .returning w' := by
    intro hq
    obtain ⟨Ds, h1, h2, h3, _⟩ := r'.r.defers
    rw [h1]
    refine leaves (κ := ⟨W, fun _ => none, ⟨fun _ => 0, fun _ => Go.undef, 0⟩, w, w.heap.size, fun _ => False, w, none, none⟩) rfl ?_ Ds a' w' L' r'.r h1 h2 h3
    intro a2 w2 L2 h4
    obtain ⟨W', base', M', w0', hat, h0⟩ := h4.ex
    obtain ⟨_, e1, e2, e3, e4⟩ := hat
    replace h0 : R0 w.heap.size W (fun _ => False) w fn.ntmps st'.tmps st'.objs a2 w2 L2 := by rw [e1, e2, e3, e4] at h0; exact h0
    obtain ⟨v, k1, k2⟩ := results_run (st := st') h0 (lend := true) (W' := W) (fun _ r o b e1 e2 => h0.o.outer r o b e1 e2) (fun b hb => .inl hb) hr hq
    have fr := h0.o.fr
    exact ⟨v, k1, v, rfl, ⟨⟨fr.os, fr.tape, fr.output, fr.size, fun k hk => fr.block k hk (fun x => x)⟩, fr.drawn⟩, k2⟩
  cases e with
  | normal => exact done q
  | ret => exact done q
  | _ => exact q.elim

end
end Go.DM
/- The D-machine, part P: a region told as one proposition that 'simp' works off; states in normal form. Conditions: none. -/
namespace Go.DM
open Go.RowKit
set_option linter.unusedSimpArgs false
set_option linter.unusedVariables false
set_option linter.unusedSectionVars false
variable [Laid]

/-- A region's operations in the order of the text; then K. -/
def exec (Γ : Env) (nxt : Nat) : List RO → RS → (RS → Prop) → Prop
  | [], st, K => K st
  | r :: rs, st, K =>
    match r.guard with
    | none => touchOk r st.tmps ∧ (post Γ nxt r st).ok ∧ exec Γ nxt rs ⟨updT st.tmps r.dst (post Γ nxt r st).val, (post Γ nxt r st).objs, (post Γ nxt r st).todo⟩ K
    | some (s, want) =>
      match st.tmps s with
      | .v (.bool b) => (b = want → touchOk r st.tmps ∧ (post Γ nxt r st).ok ∧ exec Γ nxt rs ⟨updT (updT st.tmps (some s) (.v (.bool want))) r.dst (post Γ nxt r st).val, (post Γ nxt r st).objs, (post Γ nxt r st).todo⟩ K) ∧
          (b = !want → exec Γ nxt rs ⟨updT (updT st.tmps (some s) (.v (.bool (!want)))) r.dst .skip, st.objs, st.todo⟩ K)
      | .skip => exec Γ nxt rs ⟨updT st.tmps r.dst .skip, st.objs, st.todo⟩ K
      | _ => False

theorem updT_self {ρ : Nat → DV} {s : Nat} {v : DV} (h : ρ s = v) : updT ρ (some s) v = ρ := by
  funext x
  simp only [updT]
  split
  · rename_i e; rw [e, h]
  · rfl

theorem exec_sound {Γ : Env} {nxt : Nat} : ∀ (rs : List RO) (st : RS) (K : RS → Prop), exec Γ nxt rs st K → runOk Γ nxt rs st ∧ K (runSt Γ nxt rs st)
  | [], st, K, h => ⟨trivial, h⟩
  | r :: rs, st, K, h => by
    simp only [exec] at h
    simp only [runOk, runSt]
    have yes : wantD r.guard st.tmps = some true → (touchOk r st.tmps ∧ (post Γ nxt r st).ok ∧ exec Γ nxt rs ⟨updT st.tmps r.dst (post Γ nxt r st).val, (post Γ nxt r st).objs, (post Γ nxt r st).todo⟩ K) → (stepOk Γ nxt r st ∧ runOk Γ nxt rs (stepSt Γ nxt r st)) ∧ K (runSt Γ nxt rs (stepSt Γ nxt r st)) := by
      rintro hw ⟨ht, hok, hk⟩
      have e1 : stepSt Γ nxt r st = ⟨updT st.tmps r.dst (post Γ nxt r st).val, (post Γ nxt r st).objs, (post Γ nxt r st).todo⟩ := by simp only [stepSt, hw]
      have e2 : stepOk Γ nxt r st := by simp only [stepOk, hw]; exact ⟨hok, ht⟩
      rw [e1]
      have := exec_sound rs _ K hk
      exact ⟨⟨e2, this.1⟩, this.2⟩
    have no : wantD r.guard st.tmps = some false → exec Γ nxt rs ⟨updT st.tmps r.dst .skip, st.objs, st.todo⟩ K → (stepOk Γ nxt r st ∧ runOk Γ nxt rs (stepSt Γ nxt r st)) ∧ K (runSt Γ nxt rs (stepSt Γ nxt r st)) := by
      rintro hw hk
      have e1 : stepSt Γ nxt r st = ⟨updT st.tmps r.dst .skip, st.objs, st.todo⟩ := by simp only [stepSt, hw]
      have e2 : stepOk Γ nxt r st := by simp only [stepOk, hw]
      rw [e1]
      have := exec_sound rs _ K hk
      exact ⟨⟨e2, this.1⟩, this.2⟩
    cases hg : r.guard with
    | none => rw [hg] at h; exact yes (by simp [wantD, hg]) h
    | some g =>
      obtain ⟨s, want⟩ := g
      rw [hg] at h
      simp only at h
      cases hs : st.tmps s with
      | skip => rw [hs] at h; exact no (by simp [wantD, hg, hs]) h
      | v t =>
        rw [hs] at h
        cases t with
        | bool b =>
          simp only at h
          by_cases hb : b = want
          · subst hb
            rw [updT_self hs] at h
            exact yes (by simp [wantD, hg, hs]) (h.1 rfl)
          · have hb' : b = !want := by cases b <;> cases want <;> simp_all
            subst hb'
            rw [updT_self hs] at h
            exact no (by simp [wantD, hg, hs]) (h.2 rfl)
        | _ => exact h.elim
      | _ => rw [hs] at h; exact h.elim

/-- Going on with an effect. -/
def goOn (Γ : Env) (nxt : Nat) (rs : List RO) (tm : Nat → DV) (ob : Obs) (td : List (List T)) (K : RS → Prop) (dst : Option Nat) (e : Eff) : Prop :=
  e.ok ∧ exec Γ nxt rs ⟨updT tm dst e.val, putO ob e.put, td⟩ K
/-- The same of an effect that is told whole. -/
def goOn4 (Γ : Env) (nxt : Nat) (rs : List RO) (tm : Nat → DV) (K : RS → Prop) (dst : Option Nat) (e : SEff) : Prop :=
  e.ok ∧ exec Γ nxt rs ⟨updT tm dst e.val, e.objs, e.todo⟩ K
def goD (Γ : Env) (nxt : Nat) (d : DOp) (rs : List RO) (tm : Nat → DV) (ob : Obs) (td : List (List T)) (K : RS → Prop) (dst : Option Nat) (tm' : Nat → DV) : Prop :=
  if is4 d then goOn4 Γ nxt rs tm' K dst (semS Γ d tm ob td) else goOn Γ nxt rs tm' ob td K dst (sem Γ d (nameOf nxt dst) tm ob)
/-- What a guard says. -/
def guardE (Γ : Env) (nxt : Nat) (d : DOp) (rs : List RO) (tm : Nat → DV) (ob : Obs) (td : List (List T)) (K : RS → Prop) (dst : Option Nat) (s : Nat) (want : Bool) (g : DV) : Prop :=
  match g with
  | .v (.bool b) => (b = want → goD Γ nxt d rs tm ob td K dst (updT tm (some s) (.v (.bool want)))) ∧
      (b = !want → exec Γ nxt rs ⟨updT (updT tm (some s) (.v (.bool (!want)))) dst .skip, ob, td⟩ K)
  | .skip => exec Γ nxt rs ⟨updT tm dst .skip, ob, td⟩ K
  | _ => False

section
variable {Γ : Env} {nxt : Nat} {st : RS} {K : RS → Prop} {rs : List RO} {tm tm' : Nat → DV} {ob : Obs} {td : List (List T)} {dst : Option Nat}
theorem goOn_mk (ok : Prop) (v : DV) (p : Option (Nat × Ob)) : goOn Γ nxt rs tm ob td K dst ⟨ok, v, p⟩ = (ok ∧ exec Γ nxt rs ⟨updT tm dst v, putO ob p, td⟩ K) := rfl
theorem goOn4_mk (ok : Prop) (v : DV) (ob' : Obs) (td' : List (List T)) : goOn4 Γ nxt rs tm K dst ⟨ok, v, ob', td'⟩ = (ok ∧ exec Γ nxt rs ⟨updT tm dst v, ob', td'⟩ K) := rfl
theorem goOn_bad : goOn Γ nxt rs tm ob td K dst bad = False := by simp [goOn, bad]
theorem goD_callS (f : FuncId) (args : List Opd) : goD Γ nxt (.callS f args) rs tm ob td K dst tm' = goOn4 Γ nxt rs tm' K dst (semS Γ (.callS f args) tm ob td) := by simp [goD, is4]
theorem goD_callv (x : Opd) (args : List Opd) : goD Γ nxt (.callv x args) rs tm ob td K dst tm' = goOn4 Γ nxt rs tm' K dst (semS Γ (.callv x args) tm ob td) := by simp [goD, is4]
theorem guardE_bool (d : DOp) (s : Nat) (b want : Bool) : guardE Γ nxt d rs tm ob td K dst s want (.v (.bool b)) = ((b = want → goD Γ nxt d rs tm ob td K dst (updT tm (some s) (.v (.bool want)))) ∧
      (b = !want → exec Γ nxt rs ⟨updT (updT tm (some s) (.v (.bool (!want)))) dst .skip, ob, td⟩ K)) := rfl
theorem exec_nil : exec Γ nxt [] st K = K st := rfl
theorem goD_post {d : DOp} {g : Option (Nat × Bool)} {af : List Nat} {l : Option (List Nat)} : ((post Γ nxt ⟨d, dst, g, af, l⟩ ⟨tm, ob, td⟩).ok ∧ exec Γ nxt rs ⟨updT tm' dst (post Γ nxt ⟨d, dst, g, af, l⟩ ⟨tm, ob, td⟩).val, (post Γ nxt ⟨d, dst, g, af, l⟩ ⟨tm, ob, td⟩).objs, (post Γ nxt ⟨d, dst, g, af, l⟩ ⟨tm, ob, td⟩).todo⟩ K) = goD Γ nxt d rs tm ob td K dst tm' := by
  unfold post goD
  cases h : is4 d <;> simp [goOn, goOn4, eff]
theorem exec_plain (d : DOp) (af : List Nat) : exec Γ nxt (⟨d, dst, none, af, none⟩ :: rs) ⟨tm, ob, td⟩ K = goD Γ nxt d rs tm ob td K dst tm := by
  simp only [exec, touchOk, true_and]
  exact goD_post
theorem exec_touch (d : DOp) (af : List Nat) (l : List Nat) :
    exec Γ nxt (⟨d, dst, none, af, some l⟩ :: rs) ⟨tm, ob, td⟩ K = (touchOk ⟨d, dst, none, af, some l⟩ tm ∧ goD Γ nxt d rs tm ob td K dst tm) := by
  simp only [exec]
  rw [goD_post]
@[simp low] theorem exec_guard (d : DOp) (s : Nat) (want : Bool) (af : List Nat) :
    exec Γ nxt (⟨d, dst, some (s, want), af, none⟩ :: rs) ⟨tm, ob, td⟩ K = guardE Γ nxt d rs tm ob td K dst s want (tm s) := by
  simp only [exec, guardE, touchOk, true_and]
  rw [goD_post]
end

section
variable {Γ : Env} {nxt : Nat} {K : RS → Prop} {rs : List RO} {tm : Nat → DV} {ob : Obs} {td : List (List T)} {dst : Option Nat} {d : DOp} {s : Nat} {af : List Nat}
@[simp] theorem exec_g_tt (h : tm s = .v (.bool true)) : exec Γ nxt (⟨d, dst, some (s, true), af, none⟩ :: rs) ⟨tm, ob, td⟩ K = goD Γ nxt d rs tm ob td K dst tm := by
  rw [exec_guard, h, guardE_bool, updT_self h]; simp
@[simp] theorem exec_g_ff (h : tm s = .v (.bool false)) : exec Γ nxt (⟨d, dst, some (s, false), af, none⟩ :: rs) ⟨tm, ob, td⟩ K = goD Γ nxt d rs tm ob td K dst tm := by
  rw [exec_guard, h, guardE_bool, updT_self h]; simp
@[simp] theorem exec_g_tf (h : tm s = .v (.bool true)) : exec Γ nxt (⟨d, dst, some (s, false), af, none⟩ :: rs) ⟨tm, ob, td⟩ K = exec Γ nxt rs ⟨updT tm dst .skip, ob, td⟩ K := by
  rw [exec_guard, h, guardE_bool]; simp [updT_self h]
@[simp] theorem exec_g_ft (h : tm s = .v (.bool false)) : exec Γ nxt (⟨d, dst, some (s, true), af, none⟩ :: rs) ⟨tm, ob, td⟩ K = exec Γ nxt rs ⟨updT tm dst .skip, ob, td⟩ K := by
  rw [exec_guard, h, guardE_bool]; simp [updT_self h]
@[simp] theorem exec_g_sk {want : Bool} (h : tm s = .skip) : exec Γ nxt (⟨d, dst, some (s, want), af, none⟩ :: rs) ⟨tm, ob, td⟩ K = exec Γ nxt rs ⟨updT tm dst .skip, ob, td⟩ K := by
  rw [exec_guard, h]; rfl
end

/-- Slots in normal form. -/
def look : List (Nat × DV) → Nat → DV
  | [], _ => .undef
  | (j, v) :: l, k => if k = j then v else look l k
/-- Objects in normal form. -/
def obs : List (Nat × Ob) → Nat → Option Ob
  | [], _ => none
  | (j, o) :: l, k => if k = j then some o else obs l k

theorem updT_app (f : Nat → DV) (k : Nat) (v : DV) (x : Nat) : updT f (some k) v x = if x = k then v else f x := rfl
theorem updT_none (f : Nat → DV) (v : DV) : updT f none v = f := rfl
theorem putO_none (f : Obs) : putO f none = f := rfl
theorem putO_some (f : Obs) (r : Nat) (o : Ob) (x : Nat) : putO f (some (r, o)) x = if x = r then some o else f x := rfl
theorem look_cons (j : Nat) (v : DV) (l : List (Nat × DV)) (k : Nat) : look ((j, v) :: l) k = if k = j then v else look l k := rfl
theorem look_nil (k : Nat) : look [] k = .undef := rfl
theorem obs_cons (j : Nat) (o : Ob) (l : List (Nat × Ob)) (k : Nat) : obs ((j, o) :: l) k = if k = j then some o else obs l k := rfl
theorem obs_nil (k : Nat) : obs [] k = none := rfl
theorem putO_obs (l : List (Nat × Ob)) (r : Nat) (o : Ob) : putO (obs l) (some (r, o)) = obs ((r, o) :: l) := rfl

/-- The slots ks alone are kept. -/
def keepT (ks : List Nat) (tm : Nat → DV) : List (Nat × DV) := ks.map fun k => (k, tm k)
theorem keepT_cons (k : Nat) (ks : List Nat) (tm : Nat → DV) : keepT (k :: ks) tm = (k, tm k) :: keepT ks tm := rfl
theorem keepT_nil (tm : Nat → DV) : keepT [] tm = [] := rfl

theorem look_keepT (tm : Nat → DV) : ∀ (ks : List Nat) (k : Nat), look (keepT ks tm) k = .undef ∨ look (keepT ks tm) k = tm k
  | [], _ => .inl rfl
  | j :: ks, k => by
    rw [keepT_cons, look_cons]
    split
    · rename_i h; exact .inr (by rw [h])
    · exact look_keepT tm ks k

/-- Fewer slots say less. -/
theorem Le.slots {st : DSt} {tm : Nat → DV} (h : ∀ k, tm k = .undef ∨ tm k = st.tmps k) : Le st ⟨tm, st.objs, st.nxt, st.low, st.todo⟩ := fun κ nt a w L r =>
  ⟨L, ⟨by
    obtain ⟨W, base, M, w0, hat, h0⟩ := r.r.ex
    exact ⟨W, base, M, w0, hat, h0.size, fun t => by
      rcases h t with e | e
      · show RelD w W st.objs L (tm t) _; rw [e]; simp [RelD]
      · show RelD w W st.objs L (tm t) _; rw [e]; exact h0.tmps t, h0.o⟩, r.r.adv, r.r.defers, r.r.bg, r.r.fin⟩, r.fresh, r.low, r.it⟩

theorem initSt_le (ts : List T) : Le (initSt ts) ⟨look ((ts.map .v).zipIdx.map fun p => (p.2, p.1)), obs [], 1000, 1000, []⟩ := by
  have key : ∀ (ts : List T) (i k : Nat), look (((ts.map .v).zipIdx i).map fun p => (p.2, p.1)) k = .undef ∨ look (((ts.map .v).zipIdx i).map fun p => (p.2, p.1)) k = argD (if i ≤ k then ts[k - i]? else none) := by
    intro ts
    induction ts with
    | nil => intro i k; exact .inl rfl
    | cons t ts ih =>
      intro i k
      simp only [List.map_cons, List.zipIdx_cons, look_cons]
      split
      · rename_i h; subst h; exact .inr (by simp [argD])
      · rename_i h
        rcases ih (i + 1) k with e | e
        · exact .inl e
        · right
          rw [e]
          by_cases hk : i + 1 ≤ k
          · rw [if_pos hk, if_pos (by omega), show k - i = (k - (i + 1)) + 1 by omega, List.getElem?_cons_succ]
          · have : ¬ i ≤ k := by omega
            rw [if_neg hk, if_neg this]
  refine Le.trans (Le.slots (st := initSt ts) (tm := look ((ts.map .v).zipIdx.map fun p => (p.2, p.1))) fun k => ?_) (fun κ nt a w L r => ⟨L, r⟩)
  have := key ts 0 k
  simpa [initSt] using this

section
variable {P : Program} {nt : Nat} {Γ : Env} {Q : Exit → DSt → Prop} {st : DSt} {tm : Nat → DV} {ob : Obs} {nxt low : Nat} {td : List (List T)}

/-- A region, and then only the slots ks. -/
theorem SatD.reg (hΓ : EnvOk P Γ) (hm : P.follows .mixedOrders = true) {draw : Bool} {rs : List RO} (ks : List Nat)
    (h : exec Γ nxt rs ⟨tm, ob, td⟩ fun s => Q .normal ⟨look (keepT ks s.tmps), s.objs, nxt + nt + 1, low, s.todo⟩) : SatD P nt (.region draw rs) Q ⟨tm, ob, nxt, low, td⟩ := by
  have := exec_sound _ _ _ h
  refine SatD.mono_le (Q := fun e s => e = .normal ∧ s = ⟨(runSt Γ nxt rs ⟨tm, ob, td⟩).tmps, (runSt Γ nxt rs ⟨tm, ob, td⟩).objs, nxt + nt + 1, low, (runSt Γ nxt rs ⟨tm, ob, td⟩).todo⟩) (SatD.region hΓ hm (st := ⟨tm, ob, nxt, low, td⟩) this.1 ⟨rfl, rfl⟩) ?_
  rintro e s ⟨rfl, rfl⟩
  exact ⟨_, Le.slots (look_keepT _ ks), this.2⟩
/-- A region, and then the rest of a sequence. -/
theorem SatD.regSeq (hΓ : EnvOk P Γ) (hm : P.follows .mixedOrders = true) {draw : Bool} {rs : List RO} {b : DC} (ks : List Nat)
    (h : exec Γ nxt rs ⟨tm, ob, td⟩ fun s => SatD P nt b Q ⟨look (keepT ks s.tmps), s.objs, nxt + nt + 1, low, s.todo⟩) : SatD P nt (.seq (.region draw rs) b) Q ⟨tm, ob, nxt, low, td⟩ :=
  SatD.seq (SatD.reg hΓ hm ks h)
/-- The same of a region told with words on what its operations touch, and on which calls may write. -/
theorem SatD.regA (hΓ : EnvOk P Γ) (hm : P.follows .mixedOrders = true) {d : DC} {rs : List RO} (hd : d = .regionT (rs.map bare) ∨ ∃ draw, d = .region draw (rs.map bare)) (hok : regionOk nt true rs = true) (ks : List Nat)
    (h : exec Γ nxt rs ⟨tm, ob, td⟩ fun s => Q .normal ⟨look (keepT ks s.tmps), s.objs, nxt + nt + 1, low, s.todo⟩) : SatD P nt d Q ⟨tm, ob, nxt, low, td⟩ := by
  have := exec_sound _ _ _ h
  refine SatD.mono_le (Q := fun e s => e = .normal ∧ s = ⟨(runSt Γ nxt rs ⟨tm, ob, td⟩).tmps, (runSt Γ nxt rs ⟨tm, ob, td⟩).objs, nxt + nt + 1, low, (runSt Γ nxt rs ⟨tm, ob, td⟩).todo⟩) (SatD.regionA hΓ hm hd hok (st := ⟨tm, ob, nxt, low, td⟩) this.1 ⟨rfl, rfl⟩) ?_
  rintro e s ⟨rfl, rfl⟩
  exact ⟨_, Le.slots (look_keepT _ ks), this.2⟩
theorem SatD.regASeq (hΓ : EnvOk P Γ) (hm : P.follows .mixedOrders = true) {d b : DC} {rs : List RO} (hd : d = .regionT (rs.map bare) ∨ ∃ draw, d = .region draw (rs.map bare)) (hok : regionOk nt true rs = true) (ks : List Nat)
    (h : exec Γ nxt rs ⟨tm, ob, td⟩ fun s => SatD P nt b Q ⟨look (keepT ks s.tmps), s.objs, nxt + nt + 1, low, s.todo⟩) : SatD P nt (.seq d b) Q ⟨tm, ob, nxt, low, td⟩ :=
  SatD.seq (SatD.regA hΓ hm hd hok ks h)
end

theorem initSt_sat {P : Program} {nt : Nat} {d : DC} {Q : Exit → DSt → Prop} {ts : List T} (h : SatD P nt d Q ⟨look ((ts.map .v).zipIdx.map fun p => (p.2, p.1)), obs [], 1000, 1000, []⟩) : SatD P nt d Q (initSt ts) := SatD.le (initSt_le ts) h

section
variable {Γ : Env} {nxt : Nat} {K : RS → Prop} {rs : List RO} {tm tm' : Nat → DV} {ob : Obs} {td : List (List T)} {dst : Option Nat}
@[simp] theorem goD_mov (x : Opd) : goD Γ nxt (.mov x) rs tm ob td K dst tm' = goOn Γ nxt rs tm' ob td K dst (sem Γ (.mov x) (nameOf nxt dst) tm ob) := rfl
@[simp] theorem goD_pick (c a b : Opd) : goD Γ nxt (.pick c a b) rs tm ob td K dst tm' = goOn Γ nxt rs tm' ob td K dst (sem Γ (.pick c a b) (nameOf nxt dst) tm ob) := rfl
@[simp] theorem goD_alloc (zero : List DV) : goD Γ nxt (.alloc zero) rs tm ob td K dst tm' = goOn Γ nxt rs tm' ob td K dst (sem Γ (.alloc zero) (nameOf nxt dst) tm ob) := rfl
@[simp] theorem goD_box (x : Opd) : goD Γ nxt (.box x) rs tm ob td K dst tm' = goOn Γ nxt rs tm' ob td K dst (sem Γ (.box x) (nameOf nxt dst) tm ob) := rfl
@[simp] theorem goD_build (zero : List DV) (parts : List (Nat × Nat × Opd)) : goD Γ nxt (.build zero parts) rs tm ob td K dst tm' = goOn Γ nxt rs tm' ob td K dst (sem Γ (.build zero parts) (nameOf nxt dst) tm ob) := rfl
@[simp] theorem goD_bslice (len sz : Nat) (zero : List DV) (parts : List (Nat × Nat × Opd)) : goD Γ nxt (.bslice len sz zero parts) rs tm ob td K dst tm' = goOn Γ nxt rs tm' ob td K dst (sem Γ (.bslice len sz zero parts) (nameOf nxt dst) tm ob) := rfl
@[simp] theorem goD_load (n : Nat) (agg : Bool) (x : Opd) : goD Γ nxt (.load n agg x) rs tm ob td K dst tm' = goOn Γ nxt rs tm' ob td K dst (sem Γ (.load n agg x) (nameOf nxt dst) tm ob) := rfl
@[simp] theorem goD_store (n : Nat) (x y : Opd) : goD Γ nxt (.store n x y) rs tm ob td K dst tm' = goOn Γ nxt rs tm' ob td K dst (sem Γ (.store n x y) (nameOf nxt dst) tm ob) := rfl
@[simp] theorem goD_bin (op : BinOp) (x y : Opd) : goD Γ nxt (.bin op x y) rs tm ob td K dst tm' = goOn Γ nxt rs tm' ob td K dst (sem Γ (.bin op x y) (nameOf nxt dst) tm ob) := rfl
@[simp] theorem goD_eqT (neg agg : Bool) (shs : List Sh) (x y : Opd) : goD Γ nxt (.eqT neg agg shs x y) rs tm ob td K dst tm' = goOn Γ nxt rs tm' ob td K dst (sem Γ (.eqT neg agg shs x y) (nameOf nxt dst) tm ob) := rfl
@[simp] theorem goD_un (op : UnOp) (x : Opd) : goD Γ nxt (.un op x) rs tm ob td K dst tm' = goOn Γ nxt rs tm' ob td K dst (sem Γ (.un op x) (nameOf nxt dst) tm ob) := rfl
@[simp] theorem goD_conv (k : IntKind) (x : Opd) : goD Γ nxt (.conv k x) rs tm ob td K dst tm' = goOn Γ nxt rs tm' ob td K dst (sem Γ (.conv k x) (nameOf nxt dst) tm ob) := rfl
@[simp] theorem goD_addOff (k : Nat) (x : Opd) : goD Γ nxt (.addOff k x) rs tm ob td K dst tm' = goOn Γ nxt rs tm' ob td K dst (sem Γ (.addOff k x) (nameOf nxt dst) tm ob) := rfl
@[simp] theorem goD_nilCheck (x : Opd) : goD Γ nxt (.nilCheck x) rs tm ob td K dst tm' = goOn Γ nxt rs tm' ob td K dst (sem Γ (.nilCheck x) (nameOf nxt dst) tm ob) := rfl
@[simp] theorem goD_idxAddr (sz : Nat) (x i : Opd) : goD Γ nxt (.idxAddr sz x i) rs tm ob td K dst tm' = goOn Γ nxt rs tm' ob td K dst (sem Γ (.idxAddr sz x i) (nameOf nxt dst) tm ob) := rfl
@[simp] theorem goD_arrAddr (len sz : Nat) (x i : Opd) : goD Γ nxt (.arrAddr len sz x i) rs tm ob td K dst tm' = goOn Γ nxt rs tm' ob td K dst (sem Γ (.arrAddr len sz x i) (nameOf nxt dst) tm ob) := rfl
@[simp] theorem goD_field (off n : Nat) (agg : Bool) (x : Opd) : goD Γ nxt (.field off n agg x) rs tm ob td K dst tm' = goOn Γ nxt rs tm' ob td K dst (sem Γ (.field off n agg x) (nameOf nxt dst) tm ob) := rfl
@[simp] theorem goD_slice (sz : Nat) (x : Opd) (lo hi : Option Opd) : goD Γ nxt (.slice sz x lo hi) rs tm ob td K dst tm' = goOn Γ nxt rs tm' ob td K dst (sem Γ (.slice sz x lo hi) (nameOf nxt dst) tm ob) := rfl
@[simp] theorem goD_extract (i : Nat) (x : Opd) : goD Γ nxt (.extract i x) rs tm ob td K dst tm' = goOn Γ nxt rs tm' ob td K dst (sem Γ (.extract i x) (nameOf nxt dst) tm ob) := rfl
@[simp] theorem goD_call (f : FuncId) (args : List Opd) : goD Γ nxt (.call f args) rs tm ob td K dst tm' = goOn Γ nxt rs tm' ob td K dst (sem Γ (.call f args) (nameOf nxt dst) tm ob) := rfl
@[simp] theorem goD_len (x : Opd) : goD Γ nxt (.len x) rs tm ob td K dst tm' = goOn Γ nxt rs tm' ob td K dst (sem Γ (.len x) (nameOf nxt dst) tm ob) := rfl
@[simp] theorem goD_lenS (x : Opd) : goD Γ nxt (.lenS x) rs tm ob td K dst tm' = goOn Γ nxt rs tm' ob td K dst (sem Γ (.lenS x) (nameOf nxt dst) tm ob) := rfl
@[simp] theorem goD_minmax (isMax : Bool) (x y : Opd) : goD Γ nxt (.minmax isMax x y) rs tm ob td K dst tm' = goOn Γ nxt rs tm' ob td K dst (sem Γ (.minmax isMax x y) (nameOf nxt dst) tm ob) := rfl
@[simp] theorem goD_append (e sz bytes : Nat) (x y : Opd) : goD Γ nxt (.append e sz bytes x y) rs tm ob td K dst tm' = goOn Γ nxt rs tm' ob td K dst (sem Γ (.append e sz bytes x y) (nameOf nxt dst) tm ob) := rfl
@[simp] theorem goD_mkSlice (e sz bytes : Nat) (zero : List T) (n : Opd) : goD Γ nxt (.mkSlice e sz bytes zero n) rs tm ob td K dst tm' = goOn Γ nxt rs tm' ob td K dst (sem Γ (.mkSlice e sz bytes zero n) (nameOf nxt dst) tm ob) := rfl
@[simp] theorem goD_mkSliceB (e sz bytes : Nat) (zero : List T) (n : Opd) : goD Γ nxt (.mkSliceB e sz bytes zero n) rs tm ob td K dst tm' = goOn Γ nxt rs tm' ob td K dst (sem Γ (.mkSliceB e sz bytes zero n) (nameOf nxt dst) tm ob) := rfl
@[simp] theorem goD_mkFn (f : Fn) (caps : List Opd) : goD Γ nxt (.mkFn f caps) rs tm ob td K dst tm' = goOn Γ nxt rs tm' ob td K dst (sem Γ (.mkFn f caps) (nameOf nxt dst) tm ob) := rfl
@[simp] theorem goD_callR (f : FuncId) (args : List Opd) : goD Γ nxt (.callR f args) rs tm ob td K dst tm' = goOn Γ nxt rs tm' ob td K dst (sem Γ (.callR f args) (nameOf nxt dst) tm ob) := rfl
@[simp] theorem goD_callF (f : FuncId) (args : List Opd) : goD Γ nxt (.callF f args) rs tm ob td K dst tm' = goOn Γ nxt rs tm' ob td K dst (sem Γ (.callF f args) (nameOf nxt dst) tm ob) := rfl
@[simp] theorem goD_mkMap (shs : List Sh) (agg : Bool) : goD Γ nxt (.mkMap shs agg) rs tm ob td K dst tm' = goOn Γ nxt rs tm' ob td K dst (sem Γ (.mkMap shs agg) (nameOf nxt dst) tm ob) := rfl
@[simp] theorem goD_lookup (shs : List Sh) (agg : Bool) (zero : DV) (ok : Bool) (x k : Opd) : goD Γ nxt (.lookup shs agg zero ok x k) rs tm ob td K dst tm' = goOn Γ nxt rs tm' ob td K dst (sem Γ (.lookup shs agg zero ok x k) (nameOf nxt dst) tm ob) := rfl
@[simp] theorem goD_mapUpd (shs : List Sh) (agg : Bool) (x k y : Opd) : goD Γ nxt (.mapUpd shs agg x k y) rs tm ob td K dst tm' = goOn Γ nxt rs tm' ob td K dst (sem Γ (.mapUpd shs agg x k y) (nameOf nxt dst) tm ob) := rfl
@[simp] theorem goD_mapEnt (shs : List Sh) (agg : Bool) (z : DV) (x k : Opd) : goD Γ nxt (.mapEnt shs agg z x k) rs tm ob td K dst tm' = goOn Γ nxt rs tm' ob td K dst (sem Γ (.mapEnt shs agg z x k) (nameOf nxt dst) tm ob) := rfl
@[simp] theorem goD_entSt (x s y : Opd) : goD Γ nxt (.entSt x s y) rs tm ob td K dst tm' = goOn Γ nxt rs tm' ob td K dst (sem Γ (.entSt x s y) (nameOf nxt dst) tm ob) := rfl
@[simp] theorem goD_mapDel (shs : List Sh) (agg : Bool) (x k : Opd) : goD Γ nxt (.mapDel shs agg x k) rs tm ob td K dst tm' = goOn Γ nxt rs tm' ob td K dst (sem Γ (.mapDel shs agg x k) (nameOf nxt dst) tm ob) := rfl
@[simp] theorem goD_lenM (x : Opd) : goD Γ nxt (.lenM x) rs tm ob td K dst tm' = goOn Γ nxt rs tm' ob td K dst (sem Γ (.lenM x) (nameOf nxt dst) tm ob) := rfl
@[simp] theorem goD_rangeM (x : Opd) : goD Γ nxt (.rangeM x) rs tm ob td K dst tm' = goOn Γ nxt rs tm' ob td K dst (sem Γ (.rangeM x) (nameOf nxt dst) tm ob) := rfl
@[simp] theorem goD_copy (sz : Nat) (x y : Opd) : goD Γ nxt (.copy sz x y) rs tm ob td K dst tm' = goOn Γ nxt rs tm' ob td K dst (sem Γ (.copy sz x y) (nameOf nxt dst) tm ob) := rfl
@[simp] theorem goD_isNil (kind : Nat) (neg : Bool) (x : Opd) : goD Γ nxt (.isNil kind neg x) rs tm ob td K dst tm' = goOn Γ nxt rs tm' ob td K dst (sem Γ (.isNil kind neg x) (nameOf nxt dst) tm ob) := rfl
@[simp] theorem goD_indexS (x i : Opd) : goD Γ nxt (.indexS x i) rs tm ob td K dst tm' = goOn Γ nxt rs tm' ob td K dst (sem Γ (.indexS x i) (nameOf nxt dst) tm ob) := rfl
@[simp] theorem goD_fail  : goD Γ nxt (.fail) rs tm ob td K dst tm' = goOn Γ nxt rs tm' ob td K dst (sem Γ (.fail) (nameOf nxt dst) tm ob) := rfl
@[simp] theorem goD_entryM (x : Opd) : goD Γ nxt (.entryM x) rs tm ob td K dst tm' = goOn4 Γ nxt rs tm' K dst (semS Γ (.entryM x) tm ob td) := by simp [goD, is4]
end
attribute [simp] putO_some goOn_mk goOn4_mk goOn_bad goD_callS goD_callv semS guardE_bool exec_nil exec_plain exec_touch updT_app updT_none putO_none putO_obs look_cons look_nil obs_cons obs_nil keepT_cons keepT_nil
attribute [simp] sem Opd.ev loadSem storeSem binSem eqSem unSem addOffSem nilCheckSem idxSem arrAddrSem fieldSem aggCells intOf? loOf hiOf sliceSem extractSem lenSem lenSSem minmaxSem srcRows appendSem makeSem makeBSem zeroC callSem callFSem callRSem lookupSem mapUpdSem mapEntSem entStSem mapDelSem lenMSem rangeMSem entryMSem copySem isNilSem indexSSem keyT allV keyOk pureB
attribute [simp] finQ finS RetOk RetOkS retOks retTs DRes.eff boxable cellsOf cellables cellable pureCell pureCells splice fillD fillOk tOf tOfs tOk tOks nameOf leafT fitsT shOk eqTB eqTBs thenQ blockQ

theorem wrap_id {x : Int} (h : -9223372036854775808 ≤ x ∧ x ≤ 9223372036854775807) : IntKind.i64.wrap x = x := by
  simp [IntKind.wrap, IntKind.bits, IntKind.signed]
  omega
theorem tdiv2 {x : Int} (h : 0 ≤ x) : x.tdiv 2 = x / 2 := Int.tdiv_eq_ediv_of_nonneg h
theorem tmod2 {x : Int} (h : 0 ≤ x) : x.tmod 2 = x % 2 := Int.tmod_eq_emod_of_nonneg h
end Go.DM
/- The D-machine, part Q: contracts put together; from the machine's readings to the claim's. Conditions: none. -/
namespace Go.DM
open Go.RowKit
set_option linter.unusedSimpArgs false
set_option linter.unusedVariables false
set_option linter.unusedSectionVars false
variable [Laid]

/-- Contracts by a list. -/
def envOf : List (Nat × Spec) → Env
  | [], _ => none
  | (g, s) :: l, f => if f = g then some s else envOf l f

theorem EnvOk.nil {P : Program} : EnvOk P (envOf []) := fun _ _ h => by cases h
theorem EnvOk.add {P : Program} {f : Nat} {s : Spec} {l : List (Nat × Spec)} (h : EnvOk P (envOf l)) (k : SpecOk P f s) : EnvOk P (envOf ((f, s) :: l)) := by
  intro g s' hg
  simp only [envOf] at hg
  split at hg
  · rename_i e; cases hg; subst e; exact k
  · exact h g s' hg
theorem EnvOk.cons {P : Program} {f : Nat} {s : Spec} {l : List (Nat × Spec)} (h : EnvOk P (envOf l))
    (k : ∀ ts, s.pre ts → CallsOk P f ts (s.fn ts) ∧ (s.scalar = true → scalarT (s.fn ts) = true)) (hs : s.st = none := by rfl) (hfr : s.fresh = none := by rfl) : EnvOk P (envOf ((f, s) :: l)) :=
  h.add ⟨k, fun e sz hf => (by rw [hfr] at hf; cases hf), fun k hk => (by rw [hs] at hk; cases hk)⟩
/-- The contract of a function that may write. -/
def specS (k : List DV → Obs → SRes) : Spec := ⟨fun _ => False, fun _ => .bool false, true, some k, none, false⟩
theorem CallsF.ok {P : Program} {f : FuncId} {ts : List T} {e sz : Nat} {rows : List (List T)} (h : CallsF P f ts e sz rows) : CallsOk P f ts (.sl rows) :=
  ⟨h.entry, fun W w vals hW hg hr => (h.run W w vals hW hg hr).mono fun e' w' ⟨v, h1, hb, hf⟩ => ⟨v, h1, hb, by
    simp only [RelT]
    rcases hf.it with ⟨h2, a, h3⟩ | ⟨g, cap, cur, h2, hp, hge, hh, h3, h4, h5, h6⟩
    · exact .inl ⟨h2, a, 0, h3⟩
    · refine .inr ⟨g, 0, cap, sz, h2, (Array.getElem?_eq_some_iff.1 hh).1, fun hw => ?_, h3, RelRows.of_flatten (RelL.keep (Keeps.refl (fun b => W b ∨ b = g) w').toKeepsC (fun b _ hb => .inl hb) _ _ h6) hf.len fun j v hv => ?_⟩
      · have := hW g hw; omega
      · rw [Nat.zero_add, cell_of_row w' g j cur e (0, 0) hh]
        rw [List.getElem?_take] at hv
        split at hv
        · simpa using hv
        · cases hv⟩⟩
/-- The contract of a function that answers with a slice over new memory. -/
def specF (pre : List T → Prop) (fn : List T → List (List T)) (e sz : Nat) : Spec := ⟨pre, fun ts => .sl (fn ts), false, none, some (e, sz), false⟩
/-- The same, of cells that hold no memory: it may be lent arrays. -/
def specL (pre : List T → Prop) (fn : List T → List (List T)) (e sz : Nat) : Spec := ⟨pre, fun ts => .sl (fn ts), false, none, some (e, sz), true⟩
theorem EnvOk.consL {P : Program} {f : Nat} {pre : List T → Prop} {fn : List T → List (List T)} {e sz : Nat} {l : List (Nat × Spec)} (h : EnvOk P (envOf l)) (k : ∀ ts, pre ts → CallsF P f ts e sz (fn ts) ∧ scalarT.scalarTs (fn ts).flatten = true) : EnvOk P (envOf ((f, specL pre fn e sz) :: l)) :=
  h.add ⟨fun ts hp => ⟨(k ts hp).1.ok, fun x => by cases x⟩, fun e' sz' hf ts hp => (by cases hf; exact ⟨_, rfl, (k ts hp).1, fun _ => (k ts hp).2⟩), fun k hk => (by cases hk)⟩
@[simp] theorem specL_fresh (pre : List T → Prop) (fn : List T → List (List T)) (e sz : Nat) : (specL pre fn e sz).fresh = some (e, sz) := rfl
@[simp] theorem specL_fn (pre : List T → Prop) (fn : List T → List (List T)) (e sz : Nat) (ts : List T) : (specL pre fn e sz).fn ts = .sl (fn ts) := rfl
@[simp] theorem specL_pre (pre : List T → Prop) (fn : List T → List (List T)) (e sz : Nat) : (specL pre fn e sz).pre = pre := rfl
@[simp] theorem specL_lend (pre : List T → Prop) (fn : List T → List (List T)) (e sz : Nat) : (specL pre fn e sz).lend = true := rfl
@[simp] theorem specF_lend (pre : List T → Prop) (fn : List T → List (List T)) (e sz : Nat) : (specF pre fn e sz).lend = false := rfl
@[simp] theorem specF_fresh (pre : List T → Prop) (fn : List T → List (List T)) (e sz : Nat) : (specF pre fn e sz).fresh = some (e, sz) := rfl
@[simp] theorem specF_fn (pre : List T → Prop) (fn : List T → List (List T)) (e sz : Nat) (ts : List T) : (specF pre fn e sz).fn ts = .sl (fn ts) := rfl
@[simp] theorem specF_pre (pre : List T → Prop) (fn : List T → List (List T)) (e sz : Nat) : (specF pre fn e sz).pre = pre := rfl
/-- The contract of a function that writes nothing. -/
def specP (pre : List T → Prop) (fn : List T → T) (scalar : Bool) : Spec := ⟨pre, fn, scalar, none, none, false⟩
@[simp] theorem specP_pre (pre : List T → Prop) (fn : List T → T) (scalar : Bool) : (specP pre fn scalar).pre = pre := rfl
@[simp] theorem specP_fn (pre : List T → Prop) (fn : List T → T) (scalar : Bool) : (specP pre fn scalar).fn = fn := rfl
@[simp] theorem specP_scalar (pre : List T → Prop) (fn : List T → T) (scalar : Bool) : (specP pre fn scalar).scalar = scalar := rfl
@[simp] theorem specP_st (pre : List T → Prop) (fn : List T → T) (scalar : Bool) : (specP pre fn scalar).st = none := rfl
@[simp] theorem specF_st (pre : List T → Prop) (fn : List T → List (List T)) (e sz : Nat) : (specF pre fn e sz).st = none := rfl
@[simp] theorem specS_st (k : List DV → Obs → SRes) : (specS k).st = some k := rfl
theorem envOf_cons (g f : Nat) (s : Spec) (l : List (Nat × Spec)) : envOf ((g, s) :: l) f = if f = g then some s else envOf l f := rfl
theorem envOf_nil (f : Nat) : envOf [] f = none := rfl
attribute [simp] envOf_cons envOf_nil

/-- A call whose arguments read as trees that hold no memory. -/
theorem CallsOk.calls {P : Program} {f : FuncId} {ts : List T} {t : T} (h : CallsOk P f ts t) {w : World} {vals : Array Value} (hg : GOk w fun _ => False) (hr : RelA w (fun _ => False) ts vals.toList) :
    Calls P f vals w fun e w' => ∃ v, e = .returned v ∧ BelD w.heap.size w w' ∧ RelT w' (fun _ => False) t v :=
  h.run (fun _ => False) w vals (fun _ h => h.elim) hg hr
@[simp] theorem wrap_lit (n : Nat) (h : n < 9223372036854775808) : IntKind.i64.wrap (no_index (@OfNat.ofNat Int n instOfNat)) = @OfNat.ofNat Int n instOfNat := by
  have e : (@OfNat.ofNat Int n instOfNat) = (n : Int) := rfl
  rw [e, wrap_id (by omega)]
@[simp] theorem wrap_neg (n : Nat) (h : n < 9223372036854775808) : IntKind.i64.wrap (-(no_index (@OfNat.ofNat Int n instOfNat))) = -(@OfNat.ofNat Int n instOfNat) := by
  have e : (@OfNat.ofNat Int n instOfNat) = (n : Int) := rfl
  rw [e, wrap_id (by omega)]
end Go.DM
/- The D-machine, part S: a state told anew: names changed, objects dropped, versions set back, arrays and boxes that are written no more told as trees. Conditions: none. -/
namespace Go.DM
open Go.RowKit
set_option linter.unusedSimpArgs false
set_option linter.unusedVariables false
set_option linter.unusedSectionVars false
variable [Laid]

/-- The object of the old name r is not kept. -/
def gone (objs' : Obs) (σ : Nat → Nat) (r : Nat) : Prop := ∀ r', objs' r' ≠ none → σ r' ≠ r

def corPtr (objs objs' : Obs) (σ : Nat → Nat) (r off : Nat) : DV → Prop
  | .ptr r' off' => r = σ r' ∧ off = off' ∧ ∃ cs, objs' r' = some (.box cs)
  | .bptr cs off' => off = off' ∧ objs r = some (.box (cs.map .v)) ∧ gone objs' σ r
  | .v (.box cs) => off = 0 ∧ objs r = some (.box (cs.map .v)) ∧ gone objs' σ r
  | _ => False
def corAref (objs objs' : Obs) (σ : Nat → Nat) (r ver : Nat) : DV → Prop
  | .aref r' ver' => r = σ r' ∧ ∃ e sz rows e' sz' rows', objs r = some (.arr ver e sz rows) ∧ objs' r' = some (.arr ver' e' sz' rows')
  | .v (.sl rows) => (∃ e sz, objs r = some (.arr ver e sz rows)) ∧ gone objs' σ r
  | _ => False
def corAptr (objs objs' : Obs) (σ : Nat → Nat) (r ver : Nat) (i : Int) (off : Nat) : DV → Prop
  | .aptr r' ver' i' off' => r = σ r' ∧ i = i' ∧ off = off' ∧ ∃ e sz rows e' sz' rows', objs r = some (.arr ver e sz rows) ∧ objs' r' = some (.arr ver' e' sz' rows') ∧ sz = sz' ∧ rows.length = rows'.length
  | _ => False
def isMap : Option Ob → Prop
  | some (.map _ _ _ _) => True
  | _ => False
def isIter : Option Ob → Prop
  | some (.iter _ _ _ _) => True
  | _ => False
def corMap (objs' : Obs) (σ : Nat → Nat) (r : Nat) : DV → Prop
  | .mref r' => r = σ r' ∧ isMap (objs' r')
  | _ => False
def corIt (objs' : Obs) (σ : Nat → Nat) (r : Nat) : DV → Prop
  | .iter r' => r = σ r' ∧ isIter (objs' r')
  | _ => False
def corAsl (objs objs' : Obs) (σ : Nat → Nat) (r ver lo n : Nat) : DV → Prop
  | .asl r' ver' lo' n' => r = σ r' ∧ lo = lo' ∧ n = n' ∧ ∃ e sz rows e' sz' rows', objs r = some (.arr ver e sz rows) ∧ objs' r' = some (.arr ver' e' sz' rows') ∧ sz = sz' ∧ rows.length = rows'.length
  | .v (.sl rows') => (∃ e sz rows, objs r = some (.arr ver e sz rows) ∧ rows' = (rows.drop lo).take n) ∧ gone objs' σ r
  | _ => False
def corBsl (objs objs' : Obs) (σ : Nat → Nat) (r n : Nat) : DV → Prop
  | .bsl r' n' => r = σ r' ∧ n = n' ∧ ∃ cs, objs' r' = some (.box cs)
  | .v (.sl rows) => rows.length = n ∧ (∃ sz, ∀ x ∈ rows, x.length = sz) ∧ objs r = some (.box (rows.flatten.map .v)) ∧ gone objs' σ r
  | _ => False
theorem isMap_ex {o : Option Ob} (h : isMap o) : ∃ shs agg c es, o = some (.map shs agg c es) := by
  unfold isMap at h; split at h
  · exact ⟨_, _, _, _, rfl⟩
  · exact h.elim
theorem isIter_ex {o : Option Ob} (h : isIter o) : ∃ m s sn l, o = some (.iter m s sn l) := by
  unfold isIter at h; split at h
  · exact ⟨_, _, _, _, rfl⟩
  · exact h.elim
/-- The cells of a bundle. -/
def bundle : DV → Option (List DV)
  | .agg ds => some ds
  | .v (.agg ts) => some (ts.map .v)
  | _ => none
mutual
/-- The new value says no more than the old. -/
def corD (objs objs' : Obs) (σ : Nat → Nat) : DV → DV → Prop
  | .nil0, d' => d' = .undef ∨ d' = .nil0 ∨ d' = .v (.sl [])
  | .ptr r off, d' => d' = .undef ∨ corPtr objs objs' σ r off d'
  | .aref r ver, d' => d' = .undef ∨ corAref objs objs' σ r ver d'
  | .aptr r ver i off, d' => d' = .undef ∨ corAptr objs objs' σ r ver i off d'
  | .agg ds, d' => d' = .undef ∨ match bundle d' with | some ds' => corDs objs objs' σ ds ds' | none => False
  | .undef, d' => d' = .undef
  | .skip, d' => d' = .undef ∨ d' = .skip
  | .v t, d' => d' = .undef ∨ d' = .v t
  | .tptr rows i off, d' => d' = .undef ∨ d' = .tptr rows i off
  | .bptr cs off, d' => d' = .undef ∨ d' = .bptr cs off
  | .yld, d' => d' = .undef ∨ d' = .yld
  | .mref r, d' => d' = .undef ∨ corMap objs' σ r d'
  | .iter r, d' => d' = .undef ∨ corIt objs' σ r d'
  | .asl r ver lo n, d' => d' = .undef ∨ corAsl objs objs' σ r ver lo n d'
  | .bsl r n, d' => d' = .undef ∨ corBsl objs objs' σ r n d'
  | .tup ds, d' => d' = .undef ∨ match d' with | .tup ds' => corDs objs objs' σ ds ds' | _ => False
  | .clo f ds, d' => d' = .undef ∨ match d' with | .clo f' ds' => f = f' ∧ corDs objs objs' σ ds ds' | .v (.fn f' ts) => f = f' ∧ corDs objs objs' σ ds (ts.map .v) | _ => False
def corDs (objs objs' : Obs) (σ : Nat → Nat) : List DV → List DV → Prop
  | [], ds' => ds' = []
  | d :: ds, ds' => match ds' with
    | [] => False
    | d' :: ds' => corD objs objs' σ d d' ∧ corDs objs objs' σ ds ds'
end
def corEs (objs objs' : Obs) (σ : Nat → Nat) : List (Nat × T × DV) → List (Nat × T × DV) → Prop
  | [], es' => es' = []
  | e :: es, es' => match es' with
    | [] => False
    | e' :: es' => e.1 = e'.1 ∧ e.2.1 = e'.2.1 ∧ corD objs objs' σ e.2.2 e'.2.2 ∧ corEs objs objs' σ es es'
def corOb (objs objs' : Obs) (σ : Nat → Nat) : Ob → Ob → Prop
  | .box cs, .box cs' => corDs objs objs' σ cs cs'
  | .arr _ e sz rows, .arr _ e' sz' rows' => e = e' ∧ sz = sz' ∧ rows = rows'
  | .map shs agg c es, .map shs' agg' c' es' => shs = shs' ∧ agg = agg' ∧ c = c' ∧ corEs objs objs' σ es es'
  | .iter m s sn l, .iter m' s' sn' l' => m = σ m' ∧ s = s' ∧ sn = sn' ∧ l = l' ∧ isMap (objs' m')
  | _, _ => False
def sameVer : Ob → Ob → Prop
  | .box _, .box _ => True
  | .arr v _ sz rows, .arr v' _ sz' rows' => v = v' ∧ sz = sz' ∧ rows.length = rows'.length
  | .map _ _ _ _, .map _ _ _ _ => True
  | .iter _ _ _ _, .iter _ _ _ _ => True
  | _, _ => False
theorem sameVer_kind {o o' : Ob} (h : sameVer o o') : o'.kind = o.kind := by cases o <;> cases o' <;> first | rfl | exact h.elim

def Loc.ren (L : Loc) (σ : Nat → Nat) : Loc := ⟨fun r => L.blk (σ r), fun r => L.sl (σ r), L.yl⟩

section
variable {base : Nat} {W M : Nat → Prop} {w0 w : World} {objs objs' : Obs} {L : Loc} {σ : Nat → Nat}

theorem own_cor {o o' : Ob} (h : corOb objs objs' σ o o') (r : Nat) : (L.ren σ).own r o' = L.own (σ r) o := by
  cases o <;> cases o' <;> first | rfl | exact h.elim

theorem ww_cor (hob : ∀ r' o', objs' r' = some o' → ∃ o, objs (σ r') = some o ∧ ∀ r, (L.ren σ).own r o' = L.own (σ r) o) (b : Nat) (h : WW W objs' (L.ren σ) b) : WW W objs L b := by
  rcases h with h | ⟨r', o', h1, h2⟩
  · exact .inl h
  · obtain ⟨o, h3, h4⟩ := hob r' o' h1
    exact .inr ⟨σ r', o, h3, by rw [← h4]; exact h2⟩

theorem gone_not (hO : RelO base W M w0 objs w L) (hob : ∀ r' o', objs' r' = some o' → ∃ o, objs (σ r') = some o ∧ ∀ r, (L.ren σ).own r o' = L.own (σ r) o) {r b : Nat} {o : Ob} (hr : objs r = some o) (hb : L.own r o = some b) (hg : gone objs' σ r) : ¬ WW W objs' (L.ren σ) b := by
  rintro (h | ⟨r', o', h1, h2⟩)
  · exact hO.outer r o b hr hb h
  · obtain ⟨o2, h3, h4⟩ := hob r' o' h1
    rw [h4] at h2
    exact hO.apart r (σ r') o o2 b (fun e => hg r' (by rw [h1]; exact fun e => by cases e) e.symm) hr h3 hb h2

theorem freeze_box (hO : RelO base W M w0 objs w L) (hob : ∀ r' o', objs' r' = some o' → ∃ o, objs (σ r') = some o ∧ ∀ r, (L.ren σ).own r o' = L.own (σ r) o) {r : Nat} {cs : List T} (hr : objs r = some (.box (cs.map .v))) (hg : gone objs' σ r) :
    L.blk r < w.heap.size ∧ ¬ WW W objs' (L.ren σ) (L.blk r) ∧ RelAt w (WW W objs' (L.ren σ)) (L.blk r) 0 cs := by
  have hb := hO.ob r _ hr
  obtain ⟨c, e, hc, hrel, _⟩ := hb
  refine ⟨(Array.getElem?_eq_some_iff.1 hc).1, gone_not hO hob hr rfl hg, RelAt.of_cells cs 0 fun j t hj => ?_⟩
  have hd : (cs.map DV.v)[j]? = some (.v t) := by simp [hj]
  obtain ⟨v, hv, h1, h2⟩ := RelDs.get hrel hd
  simp only [RelD] at h2
  refine ⟨v, ?_, h1, RelT.keep (Keeps.refl (WW W objs L) w).toKeepsC (fun b _ hb => ww_cor hob b hb) t v h2⟩
  simp only [World.cell?, hc, Nat.zero_add]
  simpa using hv

theorem freeze_arr (hO : RelO base W M w0 objs w L) (hob : ∀ r' o', objs' r' = some o' → ∃ o, objs (σ r') = some o ∧ ∀ r, (L.ren σ).own r o' = L.own (σ r) o) {r ver e sz : Nat} {rows : List (List T)} (hr : objs r = some (.arr ver e sz rows)) (hg : gone objs' σ r) :
    RelT w (WW W objs' (L.ren σ)) (.sl rows) (L.sl r) := by
  have hob2 := hO.ob r _ hr
  obtain ⟨hsz, hrows, hm, hal⟩ := hob2
  simp only [RelT]
  rcases hal with ⟨rfl, p, hp⟩ | ⟨g', cap, cur, hv', hp, hh, hle, hcap, hcur, hrel⟩
  · exact .inl ⟨rfl, p, 0, hp⟩
  · have hcb : capBlock (L.sl r) = some g' := by simp [hv', capBlock, Nat.pos_iff_ne_zero.1 hp]
    refine .inr ⟨g', 0, cap, sz, hv', (Array.getElem?_eq_some_iff.1 hh).1, gone_not hO hob hr (by simpa [Loc.own] using hcb) hg, hle, ?_⟩
    have hrr := ObOk.rows (hO.ob r _ hr) (g := g') hcb
    obtain ⟨vs, hvl, hvr, hvc⟩ := RelRows.flatten hrr
    exact RelRows.of_flatten (RelL.keep (Keeps.refl (WW W objs L) w).toKeepsC (fun b _ hb => ww_cor hob b hb) _ _ hvr) hrows hvc

theorem relL_of_ds {ts : List T} : ∀ {vs : List Value}, RelDs w W objs L (ts.map .v) vs → RelL w (WW W objs L) ts vs := by
  induction ts with
  | nil => intro vs h; simpa [RelDs, RelL] using h
  | cons t ts ih =>
    intro vs h
    simp only [List.map_cons, RelDs] at h
    obtain ⟨v, vs', rfl, h1, h2, h3⟩ := h
    simp only [RelD] at h2
    simp only [RelL]
    exact ⟨v, vs', rfl, h1, h2, ih h3⟩

theorem cor_rel (hO : RelO base W M w0 objs w L) (hob : ∀ r' o', objs' r' = some o' → ∃ o, objs (σ r') = some o ∧ ∀ r, (L.ren σ).own r o' = L.own (σ r) o) :
    ∀ n, (∀ (d d' : DV) (x : Value), SizeOf.sizeOf d < n → corD objs objs' σ d d' → RelD w W objs L d x → RelD w W objs' (L.ren σ) d' x) ∧
      (∀ (ds ds' : List DV) (xs : List Value), SizeOf.sizeOf ds < n → corDs objs objs' σ ds ds' → RelDs w W objs L ds xs → RelDs w W objs' (L.ren σ) ds' xs) ∧
      (∀ (ds ds' : List DV) (xs : List Value), SizeOf.sizeOf ds < n → corDs objs objs' σ ds ds' → RelDa w W objs L ds xs → RelDa w W objs' (L.ren σ) ds' xs) := by
  have keepT : ∀ (t : T) (x : Value), RelT w (WW W objs L) t x → RelT w (WW W objs' (L.ren σ)) t x := fun t x h => RelT.keep (Keeps.refl (WW W objs L) w).toKeepsC (fun b _ hb => ww_cor hob b hb) t x h
  intro n
  induction n with
  | zero => exact ⟨fun _ _ _ h => by omega, fun _ _ _ h => by omega, fun _ _ _ h => by omega⟩
  | succ n ih =>
    refine ⟨fun d d' x hn hc hr => ?_, fun ds ds' xs hn hc hr => ?_, fun ds ds' xs hn hc hr => ?_⟩
    · by_cases hu : d' = .undef
      · subst hu; simp [RelD]
      cases d with
      | undef => simp only [corD] at hc; exact absurd hc hu
      | skip => simp only [corD, hu, false_or] at hc; subst hc; simpa only [RelD] using hr
      | yld => simp only [corD, hu, false_or] at hc; subst hc; simp only [RelD, Loc.ren] at hr ⊢; exact hr
      | v t => simp only [corD, hu, false_or] at hc; subst hc; simp only [RelD] at hr ⊢; exact keepT t x hr
      | tptr rows i off =>
        simp only [corD, hu, false_or] at hc
        subst hc
        simp only [RelD] at hr ⊢
        obtain ⟨b, o, sz, hx, hb, hnw, hrr, h1, h2⟩ := hr
        exact ⟨b, o, sz, hx, hb, fun k => hnw (ww_cor hob b k), RelRows.keep (Keeps.refl (WW W objs L) w).toKeepsC (fun b _ hb => ww_cor hob b hb) hb hnw sz o rows hrr, h1, h2⟩
      | bptr cs off =>
        simp only [corD, hu, false_or] at hc
        subst hc
        simp only [RelD] at hr ⊢
        obtain ⟨b, o, hx, hb, hnw, hrr⟩ := hr
        exact ⟨b, o, hx, hb, fun k => hnw (ww_cor hob b k), RelAt.keep (Keeps.refl (WW W objs L) w).toKeepsC (fun b _ hb => ww_cor hob b hb) hb hnw o cs hrr⟩
      | mref r =>
        simp only [corD, hu, false_or] at hc
        simp only [RelD] at hr
        cases d' with
        | mref r' =>
          obtain ⟨rfl, hm⟩ := hc
          simp only [RelD]
          exact ⟨isMap_ex hm, hr.2⟩
        | _ => exact hc.elim
      | iter r =>
        simp only [corD, hu, false_or] at hc
        simp only [RelD] at hr
        cases d' with
        | iter r' =>
          obtain ⟨rfl, hm⟩ := hc
          simp only [RelD]
          exact ⟨isIter_ex hm, hr.2⟩
        | _ => exact hc.elim
      | tup ds =>
        simp only [corD, hu, false_or] at hc
        simp only [RelD] at hr
        obtain ⟨vs, rfl, hr⟩ := hr
        cases d' with
        | tup ds' =>
          simp only [RelD]
          exact ⟨vs, rfl, ih.2.2 ds ds' _ (by simp at hn ⊢; omega) hc hr⟩
        | _ => exact hc.elim
      | clo f ds =>
        simp only [corD, hu, false_or] at hc
        simp only [RelD] at hr
        obtain ⟨vs, rfl, hr⟩ := hr
        cases d' with
        | clo f' ds' =>
          obtain ⟨rfl, hc⟩ := hc
          simp only [RelD]
          exact ⟨vs, rfl, ih.2.1 ds ds' _ (by simp at hn ⊢; omega) hc hr⟩
        | v t =>
          cases t with
          | fn f' ts =>
            obtain ⟨rfl, hc⟩ := hc
            simp only [RelD, RelT]
            exact ⟨vs, rfl, relL_of_ds (ih.2.1 ds _ _ (by simp at hn ⊢; omega) hc hr)⟩
          | _ => exact hc.elim
        | _ => exact hc.elim
      | bsl r m =>
        simp only [corD, hu, false_or] at hc
        simp only [RelD] at hr
        obtain ⟨⟨cs0, hcs0⟩, rfl⟩ := hr
        cases d' with
        | bsl r' m' =>
          obtain ⟨rfl, rfl, cs, hcs⟩ := hc
          simp only [RelD]
          exact ⟨⟨cs, hcs⟩, rfl⟩
        | v t =>
          cases t with
          | sl rows =>
            obtain ⟨rfl, ⟨sz, hsz⟩, hob2, hg⟩ := hc
            obtain ⟨h1, h2, h3⟩ := freeze_box hO hob hob2 hg
            simp only [RelD, RelT]
            refine .inr ⟨L.blk r, 0, rows.length, sz, rfl, h1, h2, Nat.le_refl _, ?_⟩
            obtain ⟨vs, hv1, hv2⟩ := RelAt.vals h3
            exact RelRows.of_flatten hv1 hsz hv2
          | _ => exact hc.elim
        | _ => exact hc.elim
      | asl r ver lo m =>
        simp only [corD, hu, false_or] at hc
        simp only [RelD] at hr
        obtain ⟨hsh, ver2, e2, sz2, rows2, hc2, hle2, hx⟩ := hr
        cases d' with
        | asl r' ver' lo' m' =>
          obtain ⟨rfl, rfl, rfl, e, sz, rows, e', sz', rows', h1, h2, h3, h4⟩ := hc
          rw [hc2] at h1
          simp only [Option.some.injEq, Ob.arr.injEq] at h1
          obtain ⟨rfl, rfl, rfl, rfl⟩ := h1
          simp only [RelD]
          refine ⟨hsh, ver', e', sz', rows', h2, Nat.le_refl _, fun _ => ?_⟩
          obtain ⟨k0, p, cap, p2, k1, k2, k3⟩ := hx rfl
          exact ⟨by rw [← h4]; exact k0, p, cap, p2, by rw [← h4]; exact k1, k2, by rw [← h3]; exact k3⟩
        | v t =>
          cases t with
          | sl rows' =>
            obtain ⟨⟨e, sz, rows, h1, rfl⟩, hg⟩ := hc
            rw [hc2] at h1
            simp only [Option.some.injEq, Ob.arr.injEq] at h1
            obtain ⟨rfl, rfl, rfl, rfl⟩ := h1
            have hx := hx rfl
            simp only [RelD, RelT]
            have htl : ((rows2.drop lo).take m).length = m := by rw [List.length_take, List.length_drop]; omega
            rcases asl_rows hO hc2 hx with ⟨rfl, a, c, rfl⟩ | ⟨g, c, hcb, rfl, hnc, hrr⟩
            · exact .inl ⟨by simp, a, c, rfl⟩
            · refine .inr ⟨g, lo * sz2, c, sz2, by rw [htl], (hO.ob r _ hc2).lt (by simpa [Loc.own] using hcb), gone_not hO hob hc2 (by simpa [Loc.own] using hcb) hg, by omega, ?_⟩
              obtain ⟨vs, hvl, hvr, hvc⟩ := RelRows.flatten hrr
              exact RelRows.of_flatten (RelL.keep (Keeps.refl (WW W objs L) w).toKeepsC (fun b _ hb => ww_cor hob b hb) _ _ hvr) (fun x hx => (hO.ob r _ hc2).2.1 x (List.mem_of_mem_drop (List.mem_of_mem_take hx))) hvc
          | _ => exact hc.elim
        | _ => exact hc.elim
      | nil0 =>
        simp only [corD, hu, false_or] at hc
        rcases hc with rfl | rfl
        · simpa only [RelD] using hr
        · simp only [RelD] at hr
          obtain ⟨a, rfl⟩ := hr
          simp only [RelD, RelT]
          exact .inl ⟨trivial, a, 0, rfl⟩
      | ptr r off =>
        simp only [corD, hu, false_or] at hc
        simp only [RelD] at hr
        obtain ⟨⟨cs0, hcs0⟩, rfl⟩ := hr
        cases d' with
        | ptr r' off' =>
          obtain ⟨rfl, rfl, cs, hcs⟩ := hc
          simp only [RelD]
          exact ⟨⟨cs, hcs⟩, rfl⟩
        | bptr cs off' =>
          obtain ⟨rfl, hob2, hg⟩ := hc
          obtain ⟨h1, h2, h3⟩ := freeze_box hO hob hob2 hg
          simp only [RelD]
          exact ⟨L.blk r, 0, by simp, h1, h2, h3⟩
        | v t =>
          cases t with
          | box cs =>
            obtain ⟨rfl, hob2, hg⟩ := hc
            obtain ⟨h1, h2, h3⟩ := freeze_box hO hob hob2 hg
            simp only [RelD, RelT]
            exact ⟨L.blk r, 0, rfl, h1, h2, h3⟩
          | _ => exact hc.elim
        | _ => exact hc.elim
      | aref r ver =>
        simp only [corD, hu, false_or] at hc
        simp only [RelD] at hr
        obtain ⟨hsh, ver2, e2, sz2, rows2, hc2, hle2, hx⟩ := hr
        cases d' with
        | aref r' ver' =>
          obtain ⟨rfl, e, sz, rows, e', sz', rows', h1, h2⟩ := hc
          rw [hc2] at h1
          simp only [Option.some.injEq, Ob.arr.injEq] at h1
          obtain ⟨rfl, _⟩ := h1
          simp only [RelD]
          exact ⟨hsh, ver', e', sz', rows', h2, Nat.le_refl _, fun _ => hx rfl⟩
        | v t =>
          cases t with
          | sl rows =>
            obtain ⟨⟨e, sz, h1⟩, hg⟩ := hc
            rw [hc2] at h1
            simp only [Option.some.injEq, Ob.arr.injEq] at h1
            obtain ⟨rfl, rfl, rfl, rfl⟩ := h1
            have hx := hx rfl
            subst hx
            simp only [RelD]
            exact freeze_arr hO hob hc2 hg
          | _ => exact hc.elim
        | _ => exact hc.elim
      | aptr r ver i off =>
        simp only [corD, hu, false_or] at hc
        simp only [RelD] at hr
        obtain ⟨hsh, ver2, e2, sz2, rows2, hc2, hle2, hx⟩ := hr
        cases d' with
        | aptr r' ver' i' off' =>
          obtain ⟨rfl, rfl, rfl, e, sz, rows, e', sz', rows', h1, h2, h3, h4⟩ := hc
          rw [hc2] at h1
          simp only [Option.some.injEq, Ob.arr.injEq] at h1
          obtain ⟨rfl, rfl, rfl, rfl⟩ := h1
          simp only [RelD]
          refine ⟨hsh, ver', e', sz', rows', h2, Nat.le_refl _, fun _ => ?_⟩
          obtain ⟨g, k1, k2, k3, k4⟩ := hx rfl
          exact ⟨g, k1, by rw [← h3]; exact k2, k3, by rw [← h4]; exact k4⟩
        | _ => exact hc.elim
      | agg ds =>
        simp only [corD, hu, false_or] at hc
        simp only [RelD] at hr
        obtain ⟨vs, rfl, hr⟩ := hr
        cases d' with
        | agg ds' =>
          simp only [bundle] at hc
          simp only [RelD]
          exact ⟨vs, rfl, ih.2.1 ds ds' _ (by simp at hn ⊢; omega) hc hr⟩
        | v t =>
          cases t with
          | agg ts =>
            simp only [bundle] at hc
            simp only [RelD, RelT]
            exact ⟨vs, rfl, relL_of_ds (ih.2.1 ds _ _ (by simp at hn ⊢; omega) hc hr)⟩
          | _ => exact hc.elim
        | _ => exact hc.elim
    · cases ds with
      | nil => simp only [corDs] at hc; subst hc; simpa only [RelDs] using hr
      | cons d ds =>
        cases ds' with
        | nil => simp [corDs] at hc
        | cons d' ds' =>
          simp only [corDs] at hc
          simp only [RelDs] at hr ⊢
          obtain ⟨y, ys, hv, h1, h2, h3⟩ := hr
          exact ⟨y, ys, hv, h1, ih.1 d d' y (by simp at hn ⊢; omega) hc.1 h2, ih.2.1 ds ds' ys (by simp at hn ⊢; omega) hc.2 h3⟩
    · cases ds with
      | nil => simp only [corDs] at hc; subst hc; simpa only [RelDa] using hr
      | cons d ds =>
        cases ds' with
        | nil => simp [corDs] at hc
        | cons d' ds' =>
          simp only [corDs] at hc
          simp only [RelDa] at hr ⊢
          obtain ⟨y, ys, hv, h2, h3⟩ := hr
          exact ⟨y, ys, hv, ih.1 d d' y (by simp at hn ⊢; omega) hc.1 h2, ih.2.2 ds ds' ys (by simp at hn ⊢; omega) hc.2 h3⟩

/-- A state told anew. -/
theorem Le.cor {st st' : DSt} (σ : Nat → Nat) (hlow : st'.low = st.low) (htodo : st'.todo = st.todo) (hfresh : ∀ r, st'.nxt ≤ r → st'.objs r = none)
    (hob : ∀ r' o', st'.objs r' = some o' → ∃ o, st.objs (σ r') = some o ∧ corOb st.objs st'.objs σ o o')
    (hinj : ∀ r1 r2, st'.objs r1 ≠ none → st'.objs r2 ≠ none → σ r1 = σ r2 → r1 = r2)
    (hkeep : ∀ r, r < st.low → ∀ o, st.objs r = some o → σ r = r ∧ ∃ o', st'.objs r = some o' ∧ sameVer o o')
    (htm : ∀ k, corD st.objs st'.objs σ (st.tmps k) (st'.tmps k)) : Le st st' := by
  intro κ nt a w L h
  refine ⟨L.ren σ, ⟨?_, ?_, h.r.defers, h.r.bg, ⟨_, hfresh⟩⟩, hfresh, by rw [hlow]; exact h.low, by rw [hlow]; exact h.it⟩
  · obtain ⟨W, base, M, w0, hat, h0⟩ := h.r.ex
    have hO := h0.o
    have hob2 : ∀ r' o', st'.objs r' = some o' → ∃ o, st.objs (σ r') = some o ∧ ∀ r, (L.ren σ).own r o' = L.own (σ r) o := fun r' o' h => let ⟨o, h1, h2⟩ := hob r' o' h; ⟨o, h1, own_cor h2⟩
    have cr := fun (d d' : DV) (x : Value) => (cor_rel hO hob2 (SizeOf.sizeOf d + 1)).1 d d' x (by omega)
    have crs := fun (ds ds' : List DV) (xs : List Value) => (cor_rel hO hob2 (SizeOf.sizeOf ds + 1)).2.1 ds ds' xs (by omega)
    refine ⟨W, base, M, w0, by rw [htodo]; exact hat, h0.size, fun t => cr _ _ _ (htm t) (h0.tmps t), ⟨hO.fr, fun r' o' ho' => ?_, fun r1 r2 o1 o2 b hne h1 h2 hb1 hb2 => ?_, fun r' o' b ho' hb => ?_, hO.under, hO.gl.keep (Keeps.refl (WW W st.objs L) w).toKeepsC fun b _ hb => ww_cor hob2 b hb⟩⟩
    · obtain ⟨o, ho, hc⟩ := hob r' o' ho'
      have hk := hO.ob (σ r') o ho
      cases o with
      | box cs =>
        cases o' with
        | box cs' =>
          obtain ⟨c, e, hcc, hr, hm⟩ := hk
          exact ⟨c, e, hcc, crs cs cs' _ hc hr, hm⟩
        | _ => exact hc.elim
      | map shs agg c es =>
        cases o' with
        | map shs' agg' c' es' =>
          obtain ⟨rfl, rfl, rfl, hes⟩ := hc
          obtain ⟨arr, hcc, hr, k1, k2, k3, hm⟩ := hk
          have key : ∀ (es es' : List (Nat × T × DV)) (xs : List MapEntry), corEs st.objs st'.objs σ es es' → RelEs w W st.objs L es xs → RelEs w W st'.objs (L.ren σ) es' xs ∧ es'.map (·.1) = es.map (·.1) ∧ es'.map (·.2.1) = es.map (·.2.1) := by
            intro es
            induction es with
            | nil => intro es' xs h1 h2; simp only [corEs] at h1; subst h1; exact ⟨by simpa only [RelEs] using h2, rfl, rfl⟩
            | cons e es ih =>
              intro es' xs h1 h2
              cases es' with
              | nil => simp [corEs] at h1
              | cons e' es' =>
                simp only [corEs] at h1
                simp only [RelEs] at h2 ⊢
                obtain ⟨x, xs', rfl, q0, q1, q2, q3⟩ := h2
                obtain ⟨i1, i2, i3⟩ := ih es' xs' h1.2.2.2 q3
                refine ⟨⟨x, xs', rfl, q0.trans h1.1, ?_, cr _ _ _ h1.2.2.1 q2, i1⟩, by simp [i2, h1.1], by simp [i3, h1.2.1]⟩
                rw [← h1.2.1]
                exact RelT.keep (Keeps.refl (WW W st.objs L) w).toKeepsC (fun b _ hb => ww_cor hob2 b hb) _ _ q1
          obtain ⟨i1, i2, i3⟩ := key es es' _ hes hr
          refine ⟨arr, hcc, i1, fun e he => ?_, fun e he => ?_, by rw [i2]; exact k3, hm⟩
          · have : e.2.1 ∈ es.map (·.2.1) := by rw [← i3]; exact List.mem_map.2 ⟨e, he, rfl⟩
            obtain ⟨e0, h0', h1'⟩ := List.mem_map.1 this
            rw [← h1']; exact k1 e0 h0'
          · have : e.1 ∈ es.map (·.1) := by rw [← i2]; exact List.mem_map.2 ⟨e, he, rfl⟩
            obtain ⟨e0, h0', h1'⟩ := List.mem_map.1 this
            rw [← h1']; exact k2 e0 h0'
        | _ => exact hc.elim
      | iter m s sn l =>
        cases o' with
        | iter m' s' sn' l' =>
          obtain ⟨rfl, rfl, rfl, rfl, hmp⟩ := hc
          obtain ⟨hcc, _, hm⟩ := hk
          exact ⟨hcc, isMap_ex hmp, hm⟩
        | _ => exact hc.elim
      | arr ver e sz rows =>
        cases o' with
        | box _ => exact hc.elim
        | map _ _ _ _ => exact hc.elim
        | iter _ _ _ _ => exact hc.elim
        | arr ver' e' sz' rows' =>
          obtain ⟨rfl, rfl, rfl⟩ := hc
          obtain ⟨g1, g2, g3, g4⟩ := hk
          refine ⟨g1, g2, g3, ?_⟩
          rcases g4 with g4 | ⟨g, cap, cur, hv, hp, hh, k1, k2, k3, k4⟩
          · exact .inl g4
          · exact .inr ⟨g, cap, cur, hv, hp, hh, k1, k2, k3, RelL.keep (Keeps.refl (WW W st.objs L) w).toKeepsC (fun b _ hb => ww_cor hob2 b hb) _ _ k4⟩
    · obtain ⟨p1, q1, c1⟩ := hob r1 o1 h1
      obtain ⟨p2, q2, c2⟩ := hob r2 o2 h2
      rw [own_cor c1] at hb1
      rw [own_cor c2] at hb2
      exact hO.apart (σ r1) (σ r2) p1 p2 b (fun e => hne (hinj r1 r2 (fun e => by rw [show st'.objs r1 = some o1 from h1] at e; cases e) (fun e => by rw [show st'.objs r2 = some o2 from h2] at e; cases e) e)) q1 q2 hb1 hb2
    · obtain ⟨p1, q1, c1⟩ := hob r' o' ho'
      rw [own_cor c1] at hb
      exact hO.outer (σ r') p1 b q1 hb
  · have ha := h.r.adv
    refine ⟨ha.keeps, fun b hb hw => ha.sub b hb (ww_cor (fun r' o' h => let ⟨o, h1, h2⟩ := hob r' o' h; ⟨o, h1, own_cor h2⟩) b hw), fun r o hr hk => ?_, fun r ver e sz rows hr => ?_, ha.yl⟩
    · have hlt : r < st.low := Nat.lt_of_not_le fun hle => by rw [h.low r hle] at hr; cases hr
      obtain ⟨e1, o1, hr1, hk1⟩ := ha.fix r o hr hk
      obtain ⟨hs, o', ho', hv⟩ := hkeep r hlt _ hr1
      exact ⟨by simp only [Loc.ren, hs]; exact e1, o', ho', (sameVer_kind hv).trans hk1⟩
    · have hlt : r < st.low := Nat.lt_of_not_le fun hle => by rw [h.low r hle] at hr; cases hr
      obtain ⟨v1, e1, s1, r1, hr1, l1, k1⟩ := ha.arr r ver e sz rows hr
      obtain ⟨hs, o', ho', hv⟩ := hkeep r hlt _ hr1
      cases o' with
      | box cs' => exact hv.elim
      | map _ _ _ _ => exact hv.elim
      | iter _ _ _ _ => exact hv.elim
      | arr v2 e2 s2 r2 =>
        obtain ⟨rfl, rfl, h3⟩ := hv
        exact ⟨v1, e2, s1, r2, ho', l1, fun hv => by
          obtain ⟨a1, a2, a3⟩ := k1 hv
          exact ⟨by simp only [Loc.ren, hs]; exact a1, a2, by rw [← h3]; exact a3⟩⟩
end
end Go.DM
