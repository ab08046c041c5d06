/- The D-machine, part N: code. Conditions: none. -/
import Derived.Test.YtecgedikabjcdaaDmM
import Derived.Sort.LoopGhostIn
namespace Go.DM
open Go.RowKit
set_option linter.unusedSimpArgs false
set_option linter.unusedVariables false

/-- Code as the machine reads it; 'other' is what it cannot read. -/
inductive DC where
  | skip
  | region (draw : Bool) (rs : List RO)
  | regionT (rs : List RO)
  | seq (a b : DC)
  | cond (c : Opd) (a b : DC)
  | block (id : Nat) (c : DC)
  | loop (c : DC)
  | exit (id : Nat)
  | ret
  | rangeF (g : Opd) (ps : List Nat) (a b : DC)
  | other

def compileC (P : Program) (nt : Nat) : Code → DC
  | .skip => .skip
  | .region _ ops draw => match compileROs P ops with
    | some rs => if regionOk nt draw rs then .region draw rs else if draw && regionOk nt false rs then .regionT rs else .other
    | none => .other
  | .seq a b => .seq (compileC P nt a) (compileC P nt b)
  | .cond c a b => match Opd.of c with
    | some x => .cond x (compileC P nt a) (compileC P nt b)
    | none => .other
  | .block id c => .block id (compileC P nt c)
  | .loop c => .loop (compileC P nt c)
  | .exit id => .exit id
  | .ret => .ret
  | .rangeFunc g ps a b => match Opd.of g with
    | some x => if ps.toList.all (· < nt) then .rangeF x ps.toList (compileC P nt a) (compileC P nt b) else .other
    | none => .other
  | _ => .other

section
variable {P : Program} {nt : Nat} {c : Code}
theorem inv_skip (h : compileC P nt c = .skip) : c = .skip := by
  cases c <;> simp only [compileC] at h <;> first | rfl | cases h | (repeat' split at h) <;> cases h
theorem inv_ret (h : compileC P nt c = .ret) : c = .ret := by
  cases c <;> simp only [compileC] at h <;> first | rfl | cases h | (repeat' split at h) <;> cases h
theorem inv_rangeF {x : Opd} {ps : List Nat} {a b : DC} (h : compileC P nt c = .rangeF x ps a b) : ∃ g qs y z, c = .rangeFunc g qs y z ∧ Opd.of g = some x ∧ qs.toList = ps ∧ (∀ p ∈ ps, p < nt) ∧ compileC P nt y = a ∧ compileC P nt z = b := by
  cases c <;> simp only [compileC] at h <;> first | (cases h; done) | skip
  · (repeat' split at h) <;> cases h
  · split at h <;> cases h
  · split at h
    · rename_i hx
      split at h
      · rename_i hp
        cases h
        exact ⟨_, _, _, _, rfl, hx, rfl, fun p hp' => by have := List.all_eq_true.1 hp p hp'; simpa using this, rfl, rfl⟩
      · cases h
    · cases h
theorem inv_exit {id : Nat} (h : compileC P nt c = .exit id) : c = .exit id := by
  cases c <;> simp only [compileC] at h <;> first | (cases h; rfl) | cases h | (repeat' split at h) <;> cases h
theorem inv_seq {a b : DC} (h : compileC P nt c = .seq a b) : ∃ x y, c = .seq x y ∧ compileC P nt x = a ∧ compileC P nt y = b := by
  cases c <;> simp only [compileC] at h <;> first | (cases h; exact ⟨_, _, rfl, rfl, rfl⟩) | cases h | (repeat' split at h) <;> cases h
theorem inv_cond {x : Opd} {a b : DC} (h : compileC P nt c = .cond x a b) : ∃ x' y z, c = .cond x' y z ∧ Opd.of x' = some x ∧ compileC P nt y = a ∧ compileC P nt z = b := by
  cases c <;> simp only [compileC] at h <;> first | (cases h; done) | skip
  · (repeat' split at h) <;> cases h
  · split at h
    · rename_i hx; cases h; exact ⟨_, _, _, rfl, hx, rfl, rfl⟩
    · cases h
  · (repeat' split at h) <;> cases h
theorem inv_block {id : Nat} {a : DC} (h : compileC P nt c = .block id a) : ∃ x, c = .block id x ∧ compileC P nt x = a := by
  cases c <;> simp only [compileC] at h <;> first | (cases h; exact ⟨_, rfl, rfl⟩) | cases h | (repeat' split at h) <;> cases h
theorem inv_loop {a : DC} (h : compileC P nt c = .loop a) : ∃ x, c = .loop x ∧ compileC P nt x = a := by
  cases c <;> simp only [compileC] at h <;> first | (cases h; exact ⟨_, rfl, rfl⟩) | cases h | (repeat' split at h) <;> cases h
theorem inv_region {draw : Bool} {rs : List RO} (h : compileC P nt c = .region draw rs) : ∃ id ops, c = .region id ops draw ∧ compileROs P ops = some rs ∧ regionOk nt draw rs = true := by
  cases c <;> simp only [compileC] at h <;> first | (cases h; done) | skip
  case region id ops dr =>
    split at h
    · rename_i hrs
      split at h
      · rename_i hok; cases h; exact ⟨_, _, rfl, hrs, hok⟩
      · split at h <;> cases h
    · cases h
  case cond => split at h <;> cases h
  case rangeFunc => (repeat' split at h) <;> cases h
theorem inv_regionT {rs : List RO} (h : compileC P nt c = .regionT rs) : ∃ id ops, c = .region id ops true ∧ compileROs P ops = some rs := by
  cases c <;> simp only [compileC] at h <;> first | (cases h; done) | skip
  case region id ops dr =>
    split at h
    · rename_i hrs
      split at h
      · cases h
      · split at h
        · rename_i hd; cases h
          simp only [Bool.and_eq_true] at hd
          exact ⟨_, _, by rw [hd.1], hrs⟩
        · cases h
    · cases h
  case cond => split at h <;> cases h
  case rangeFunc => (repeat' split at h) <;> cases h
end

theorem compile_bareD {P : Program} {o : Oper} {d : DOp} (h : compileOp P o = some d) : bareD d = d := by
  cases d <;> first | rfl | skip
  obtain ⟨c, _, hc⟩ := compile_call h (.inr rfl)
  exfalso
  unfold compileCall at hc
  repeat' split at hc
  all_goals first
    | (cases hc; done)
    | (simp only [Option.map_eq_some_iff, Option.pure_def, Option.bind_eq_bind, Option.bind_eq_some_iff, Option.some.injEq, reduceCtorEq, and_false, exists_false] at hc; done)
theorem compileRO_bare {P : Program} {ops : Array Oper} {o : Oper} {r : RO} (h : compileRO P ops o = some r) : bare r = r := by
  simp only [compileRO, Option.pure_def, Option.bind_eq_bind, Option.bind_eq_some_iff, Option.some.injEq] at h
  obtain ⟨d, hd, g, hg, rfl⟩ := h
  simp only [bare, compile_bareD hd]
theorem compileROs_bare {P : Program} {ops : Array Oper} {rs : List RO} (h : compileROs P ops = some rs) : rs.map bare = rs := by
  unfold compileROs at h
  have key : ∀ (l : List Oper) (rs : List RO), l.mapM (compileRO P ops) = some rs → rs.map bare = rs := by
    intro l
    induction l with
    | nil => intro rs h; simp at h; subst h; rfl
    | cons o l ih =>
      intro rs h
      simp only [List.mapM_cons, Option.pure_def, Option.bind_eq_bind, Option.bind_eq_some_iff, Option.some.injEq] at h
      obtain ⟨r, hr, rs', hrs, rfl⟩ := h
      simp only [List.map_cons, compileRO_bare hr, ih rs' hrs]
  exact key _ _ h

/-- A region's operations with words on what they touch. -/
def annot : List RO → List (Option (List Nat)) → List RO
  | r :: rs, t :: ts => ⟨r.d, r.dst, r.guard, r.after, t⟩ :: annot rs ts
  | rs, _ => rs

/-- The state describes the frame and the world. -/
structure Rel (κ : Ctx) (nt : Nat) (st : DSt) (a : Act) (w : World) (L : Loc) : Prop where
  r : RelR κ nt ⟨st.tmps, st.objs, st.todo⟩ a w L
  fresh : ∀ r, st.nxt ≤ r → st.objs r = none
  low : ∀ r, st.low ≤ r → κ.go r = none
  it : κ.J.isSome = true → st.low = 0

/-- The code comes to a state that meets Q. -/
def Sat (P : Program) (nt : Nat) (c : Code) (Q : Exit → DSt → Prop) (st : DSt) : Prop :=
  ∀ (n : Nat) (κ : Ctx) (a : Act) (w : World) (L : Loc), κ.Good P → Rel κ nt st a w L →
    c.wpIn (wideR κ.ro) n P (fun e a' w' => ∃ st' L', Q e st' ∧ Rel κ nt st' a' w' L') a w

/-- The same of code that reads so. -/
structure SatD (P : Program) (nt : Nat) (d : DC) (Q : Exit → DSt → Prop) (st : DSt) : Prop where
  run : ∀ c, compileC P nt c = d → Sat P nt c Q st

/-- What the one state describes the other describes. -/
def Le (st st' : DSt) : Prop := ∀ (κ : Ctx) (nt : Nat) (a : Act) (w : World) (L : Loc), Rel κ nt st a w L → ∃ L', Rel κ nt st' a w L'

theorem Le.refl (st : DSt) : Le st st := fun _ _ _ _ L h => ⟨L, h⟩
theorem Le.trans {a b c : DSt} (h : Le a b) (k : Le b c) : Le a c := fun _ _ _ _ L r => let ⟨_, r'⟩ := h _ _ _ _ L r; k _ _ _ _ _ r'

section
variable {P : Program} {nt : Nat} {Γ : Env} {Q : Exit → DSt → Prop} {st : DSt}

theorem Sat.le {c : Code} {st' : DSt} (h : Le st st') (k : Sat P nt c Q st') : Sat P nt c Q st := fun n κ a w L g r => let ⟨L', r'⟩ := h _ _ _ _ L r; k n κ a w L' g r'
theorem SatD.le {d : DC} {st' : DSt} (h : Le st st') (k : SatD P nt d Q st') : SatD P nt d Q st := ⟨fun c hc => Sat.le h (k.run c hc)⟩
theorem Sat.mono {c : Code} {Q' : Exit → DSt → Prop} (h : Sat P nt c Q st) (hq : ∀ e st, Q e st → Q' e st) : Sat P nt c Q' st :=
  fun n κ a w L g r => wpIn_mono (h n κ a w L g r) fun _ _ _ ⟨st', L', q, r'⟩ => ⟨st', L', hq _ _ q, r'⟩
theorem SatD.mono {d : DC} {Q' : Exit → DSt → Prop} (h : SatD P nt d Q st) (hq : ∀ e st, Q e st → Q' e st) : SatD P nt d Q' st := ⟨fun c hc => Sat.mono (h.run c hc) hq⟩
/-- At the end, too, a state may be told by less. -/
theorem SatD.mono_le {d : DC} {Q' : Exit → DSt → Prop} (h : SatD P nt d Q st) (hq : ∀ e st, Q e st → ∃ st2, Le st st2 ∧ Q' e st2) : SatD P nt d Q' st :=
  ⟨fun c hc n κ a w L g r => wpIn_mono (h.run c hc n κ a w L g r) fun _ _ _ ⟨_, L', q, r'⟩ => let ⟨st2, hl, q2⟩ := hq _ _ q; let ⟨L2, r2⟩ := hl _ _ _ _ L' r'; ⟨st2, L2, q2, r2⟩⟩

theorem SatD.skip (h : Q .normal st) : SatD P nt .skip Q st := by
  refine ⟨fun c hc => ?_⟩
  obtain rfl := inv_skip hc
  exact fun n κ a w L g r => wpIn_skip ⟨st, L, h, r⟩
theorem SatD.exit {id : Nat} (h : Q (.exit id) st) : SatD P nt (.exit id) Q st := by
  refine ⟨fun c hc => ?_⟩
  obtain rfl := inv_exit hc
  exact fun n κ a w L g r => wpIn_exit ⟨st, L, h, r⟩
theorem SatD.ret (h : Q .ret st) : SatD P nt .ret Q st := by
  refine ⟨fun c hc => ?_⟩
  obtain rfl := inv_ret hc
  exact fun n κ a w L g r => wpIn_ret ⟨st, L, h, r⟩

def thenQ (k : DSt → Prop) (Q : Exit → DSt → Prop) : Exit → DSt → Prop
  | .normal, st => k st
  | e, st => Q e st

theorem SatD.seq {a b : DC} (h : SatD P nt a (thenQ (SatD P nt b Q) Q) st) : SatD P nt (.seq a b) Q st := by
  refine ⟨fun c hc => ?_⟩
  obtain ⟨a', b', rfl, ha, hb⟩ := inv_seq hc
  intro n κ act w L g r
  refine wpIn_seq (wpIn_mono (h.run _ ha n κ act w L g r) ?_)
  rintro e a' w' ⟨st', L', q, r'⟩
  cases e with
  | normal => exact q.run _ hb n κ a' w' L' g r'
  | _ => exact ⟨st', L', q, r'⟩

theorem SatD.cond {x : Opd} {a b : DC} {t : Bool} (hx : x.ev st.tmps = .v (.bool t)) (ht : t = true → SatD P nt a Q st) (hf : t = false → SatD P nt b Q st) : SatD P nt (.cond x a b) Q st := by
  refine ⟨fun c hc => ?_⟩
  obtain ⟨x', a', b', rfl, hx', ha, hb⟩ := inv_cond hc
  intro n κ act w L g r
  obtain ⟨W, base, M, w0, hat, h0⟩ := r.r.ex
  have := Opd.of_rel h0.tmps hx'
  rw [hx] at this
  simp only [RelD, RelT] at this
  cases t with
  | true => exact wpIn_cond_true this ((ht rfl).run _ ha n κ act w L g r)
  | false => exact wpIn_cond_false this ((hf rfl).run _ hb n κ act w L g r)

def blockQ (id : Nat) (Q : Exit → DSt → Prop) : Exit → DSt → Prop
  | .exit id', st => if id' = id then Q .normal st else Q (.exit id') st
  | e, st => Q e st

theorem SatD.block {id : Nat} {a : DC} (h : SatD P nt a (blockQ id Q) st) : SatD P nt (.block id a) Q st := by
  refine ⟨fun c hc => ?_⟩
  obtain ⟨a', rfl, ha⟩ := inv_block hc
  intro n κ act w L g r
  refine wpIn_block (wpIn_mono (h.run _ ha n κ act w L g r) ?_)
  rintro e a' w' ⟨st', L', q, r'⟩
  cases e with
  | exit id' =>
    simp only [blockQ] at q
    simp only [Exit.inBlock]
    split at q
    · rename_i h; rw [if_pos h]; exact ⟨st', L', q, r'⟩
    · rename_i h; rw [if_neg h]; exact ⟨st', L', q, r'⟩
  | _ => exact ⟨st', L', q, r'⟩

/-- A loop: what holds of the state at each round's head, told by a value of any type; a measure that goes down. -/
theorem SatD.loop {α : Type} {body : DC} (R : α → DSt) (I : α → Prop) (μ : α → Nat) (x : α) (h0 : Le st (R x)) (hI : I x)
    (round : ∀ y, I y → SatD P nt body (thenQ (fun st' => ∃ z, Le st' (R z) ∧ I z ∧ μ z < μ y) Q) (R y)) : SatD P nt (.loop body) Q st := by
  refine ⟨fun c hc => ?_⟩
  obtain ⟨a', rfl, ha'⟩ := inv_loop hc
  intro n κ act w L g r
  obtain ⟨L0, r0⟩ := h0 _ _ _ _ L r
  refine wpIn_loop_ghost (fun k a w => ∃ y L, μ y = k ∧ I y ∧ Rel κ nt (R y) a w L) (μ x) ⟨x, L0, rfl, hI, r0⟩ ?_
  rintro k a w ⟨y, L, rfl, hy, hr⟩
  refine wpIn_mono ((round y hy).run _ ha' n κ a w L g hr) ?_
  rintro e a' w' ⟨st', L', q, r'⟩
  cases e with
  | normal =>
    obtain ⟨z, hle, hz, hlt⟩ := q
    obtain ⟨L2, r2⟩ := hle _ _ _ _ L' r'
    exact ⟨μ z, hlt, z, L2, rfl, hz, r2⟩
  | _ => exact ⟨st', L', q, r'⟩

theorem high_run (hΓ : EnvOk P Γ) {nxt : Nat} : ∀ (rs : List RO), rs.all (roOk nt) = true → ∀ (st : RS), runOk Γ nxt rs st → ∀ t, nxt + nt + 1 ≤ t → st.objs t = none → (runSt Γ nxt rs st).objs t = none
  | [], _, st, _, t, _, h => h
  | r :: rs, hall, st, hok, t, ht, h => by
    simp only [List.all_cons, Bool.and_eq_true] at hall
    simp only [runOk] at hok
    refine high_run hΓ rs hall.2 _ hok.2 t ht (step_none hΓ hok.1 h fun hl e => ?_)
    have hr := hall.1
    simp only [roOk, Bool.and_eq_true] at hr
    have hs : r.dst.isSome = true := by simpa [laysOk, hl] using hr.1.2
    obtain ⟨d, hd⟩ := Option.isSome_iff_exists.1 hs
    have hlt : d < nt := by have := hr.2; rw [hd] at this; simpa using this
    simp only [nm, nameOf, hd] at e
    omega

theorem region_any (hΓ : EnvOk P Γ) (hm : P.follows .mixedOrders = true) {id : Nat} {ops : Array Oper} {draw : Bool} {rs : List RO} (hrs : compileROs P ops = some (rs.map bare)) (hok : regionOk nt draw rs = true)
    (hrun : runOk Γ st.nxt rs ⟨st.tmps, st.objs, st.todo⟩) (hQ : Q .normal ⟨(runSt Γ st.nxt rs ⟨st.tmps, st.objs, st.todo⟩).tmps, (runSt Γ st.nxt rs ⟨st.tmps, st.objs, st.todo⟩).objs, st.nxt + nt + 1, st.low, (runSt Γ st.nxt rs ⟨st.tmps, st.objs, st.todo⟩).todo⟩) :
    Sat P nt (.region id ops draw) Q st := by
  intro n κ act w L g r
  have hname : ∀ x ∈ rs, ∃ k, nm st.nxt x = st.nxt + k := fun x _ => by
    unfold nm nameOf
    cases x.dst with
    | none => exact ⟨0, rfl⟩
    | some d => exact ⟨d + 1, by simp only [Nat.add_assoc]⟩
  have hf : FreeAll st.nxt rs ⟨st.tmps, st.objs, st.todo⟩ := ⟨r.fresh _ (Nat.le_refl _), fun x hx => by
    obtain ⟨k, hk⟩ := hname x hx
    rw [hk]
    exact r.fresh _ (by omega)⟩
  have fin : ∀ a' w' L', RelR κ nt (runSt Γ st.nxt rs ⟨st.tmps, st.objs, st.todo⟩) a' w' L' → ∃ st' L', Q .normal st' ∧ Rel κ nt st' a' w' L' := by
    intro a' w' L' r'
    refine ⟨_, L', hQ, r', ?_, r.low, r.it⟩
    have hall : rs.all (roOk nt) = true := by simp only [regionOk, Bool.and_eq_true] at hok; exact hok.1.1
    intro t ht
    exact high_run hΓ rs hall _ hrun t ht (r.fresh t (by simp only at ht; omega))
  cases draw with
  | false => exact region_text hΓ g hrs hok r.r hf hrun fin
  | true => exact region_draw hΓ g hm hrs hok r.r hf hrun fin

/-- A region. -/
theorem SatD.region (hΓ : EnvOk P Γ) (hm : P.follows .mixedOrders = true) {draw : Bool} {rs : List RO} (hrun : runOk Γ st.nxt rs ⟨st.tmps, st.objs, st.todo⟩) (hQ : Q .normal ⟨(runSt Γ st.nxt rs ⟨st.tmps, st.objs, st.todo⟩).tmps, (runSt Γ st.nxt rs ⟨st.tmps, st.objs, st.todo⟩).objs, st.nxt + nt + 1, st.low, (runSt Γ st.nxt rs ⟨st.tmps, st.objs, st.todo⟩).todo⟩) :
    SatD P nt (.region draw rs) Q st := by
  refine ⟨fun c hc => ?_⟩
  obtain ⟨id, ops, rfl, hrs, hok⟩ := inv_region hc
  exact region_any hΓ hm (by rw [compileROs_bare hrs]; exact hrs) hok hrun hQ

/-- A region told with words on what its operations touch, and on which calls may write. -/
theorem SatD.regionA (hΓ : EnvOk P Γ) (hm : P.follows .mixedOrders = true) {d : DC} {rs : List RO} (hd : d = .regionT (rs.map bare) ∨ ∃ draw, d = .region draw (rs.map bare)) (hok : regionOk nt true rs = true)
    (hrun : runOk Γ st.nxt rs ⟨st.tmps, st.objs, st.todo⟩) (hQ : Q .normal ⟨(runSt Γ st.nxt rs ⟨st.tmps, st.objs, st.todo⟩).tmps, (runSt Γ st.nxt rs ⟨st.tmps, st.objs, st.todo⟩).objs, st.nxt + nt + 1, st.low, (runSt Γ st.nxt rs ⟨st.tmps, st.objs, st.todo⟩).todo⟩) :
    SatD P nt d Q st := by
  refine ⟨fun c hc => ?_⟩
  rcases hd with rfl | ⟨draw, rfl⟩
  · obtain ⟨id, ops, rfl, hrs⟩ := inv_regionT hc
    exact region_any hΓ hm hrs hok hrun hQ
  · obtain ⟨id, ops, rfl, hrs, hok'⟩ := inv_region hc
    refine region_any hΓ hm hrs ?_ hrun hQ
    cases draw with
    | true => exact hok
    | false => simp only [regionOk, Bool.and_eq_true] at hok ⊢; exact ⟨hok.1, rfl⟩
end
end Go.DM
