/- The D-machine, part N: code. Conditions: none. -/
import Derived.Test.YtbncgpjkfglhdaaDoorDmM
import Derived.Sort.LoopGhostIn
namespace Go.DM
open Go.RowKit
set_option linter.unusedSimpArgs false

/-- Code as the machine reads it; 'other' is what it cannot read. -/
inductive DC where
  | skip
  | region (draw : Bool) (rs : List RO)
  | regionT (rs : List RO)
  | seq (a b : DC)
  | cond (c : Opd) (a b : DC)
  | block (id : Nat) (c : DC)
  | loop (c : DC)
  | exit (id : Nat)
  | ret
  | other

def compileC (P : Program) (nt : Nat) : Code → DC
  | .skip => .skip
  | .region _ ops draw => match compileROs P ops with
    | some rs => if regionOk nt draw rs then .region draw rs else if draw && regionOk nt false rs then .regionT rs else .other
    | none => .other
  | .seq a b => .seq (compileC P nt a) (compileC P nt b)
  | .cond c a b => match Opd.of c with
    | some x => .cond x (compileC P nt a) (compileC P nt b)
    | none => .other
  | .block id c => .block id (compileC P nt c)
  | .loop c => .loop (compileC P nt c)
  | .exit id => .exit id
  | .ret => .ret
  | _ => .other

section
variable {P : Program} {nt : Nat} {c : Code}
theorem inv_skip (h : compileC P nt c = .skip) : c = .skip := by
  cases c <;> simp only [compileC] at h <;> first | rfl | cases h | (repeat' split at h) <;> cases h
theorem inv_ret (h : compileC P nt c = .ret) : c = .ret := by
  cases c <;> simp only [compileC] at h <;> first | rfl | cases h | (repeat' split at h) <;> cases h
theorem inv_exit {id : Nat} (h : compileC P nt c = .exit id) : c = .exit id := by
  cases c <;> simp only [compileC] at h <;> first | (cases h; rfl) | cases h | (repeat' split at h) <;> cases h
theorem inv_seq {a b : DC} (h : compileC P nt c = .seq a b) : ∃ x y, c = .seq x y ∧ compileC P nt x = a ∧ compileC P nt y = b := by
  cases c <;> simp only [compileC] at h <;> first | (cases h; exact ⟨_, _, rfl, rfl, rfl⟩) | cases h | (repeat' split at h) <;> cases h
theorem inv_cond {x : Opd} {a b : DC} (h : compileC P nt c = .cond x a b) : ∃ x' y z, c = .cond x' y z ∧ Opd.of x' = some x ∧ compileC P nt y = a ∧ compileC P nt z = b := by
  cases c <;> simp only [compileC] at h <;> first | (cases h; done) | skip
  · (repeat' split at h) <;> cases h
  · split at h
    · rename_i hx; cases h; exact ⟨_, _, _, rfl, hx, rfl, rfl⟩
    · cases h
theorem inv_block {id : Nat} {a : DC} (h : compileC P nt c = .block id a) : ∃ x, c = .block id x ∧ compileC P nt x = a := by
  cases c <;> simp only [compileC] at h <;> first | (cases h; exact ⟨_, rfl, rfl⟩) | cases h | (repeat' split at h) <;> cases h
theorem inv_loop {a : DC} (h : compileC P nt c = .loop a) : ∃ x, c = .loop x ∧ compileC P nt x = a := by
  cases c <;> simp only [compileC] at h <;> first | (cases h; exact ⟨_, rfl, rfl⟩) | cases h | (repeat' split at h) <;> cases h
theorem inv_region {draw : Bool} {rs : List RO} (h : compileC P nt c = .region draw rs) : ∃ id ops, c = .region id ops draw ∧ compileROs P ops = some rs ∧ regionOk nt draw rs = true := by
  cases c <;> simp only [compileC] at h <;> first | (cases h; done) | skip
  · split at h
    · rename_i hrs
      split at h
      · rename_i hok; cases h; exact ⟨_, _, rfl, hrs, hok⟩
      · split at h <;> cases h
    · cases h
  · split at h <;> cases h
theorem inv_regionT {rs : List RO} (h : compileC P nt c = .regionT rs) : ∃ id ops, c = .region id ops true ∧ compileROs P ops = some rs := by
  cases c <;> simp only [compileC] at h <;> first | (cases h; done) | skip
  · split at h
    · rename_i hrs
      split at h
      · cases h
      · split at h
        · rename_i hd; cases h
          simp only [Bool.and_eq_true] at hd
          exact ⟨_, _, by rw [hd.1], hrs⟩
        · cases h
    · cases h
  · split at h <;> cases h
end

theorem compileRO_bare {P : Program} {ops : Array Oper} {o : Oper} {r : RO} (h : compileRO P ops o = some r) : bare r = r := by
  simp only [compileRO, Option.pure_def, Option.bind_eq_bind, Option.bind_eq_some_iff, Option.some.injEq] at h
  obtain ⟨d, hd, g, hg, rfl⟩ := h
  rfl
theorem compileROs_bare {P : Program} {ops : Array Oper} {rs : List RO} (h : compileROs P ops = some rs) : rs.map bare = rs := by
  unfold compileROs at h
  have key : ∀ (l : List Oper) (rs : List RO), l.mapM (compileRO P ops) = some rs → rs.map bare = rs := by
    intro l
    induction l with
    | nil => intro rs h; simp at h; subst h; rfl
    | cons o l ih =>
      intro rs h
      simp only [List.mapM_cons, Option.pure_def, Option.bind_eq_bind, Option.bind_eq_some_iff, Option.some.injEq] at h
      obtain ⟨r, hr, rs', hrs, rfl⟩ := h
      simp only [List.map_cons, compileRO_bare hr, ih rs' hrs]
  exact key _ _ h

/-- A region's operations with words on what they touch. -/
def annot : List RO → List (Option (List Nat)) → List RO
  | r :: rs, t :: ts => ⟨r.d, r.dst, r.guard, r.after, t⟩ :: annot rs ts
  | rs, _ => rs

/-- The code comes to a state that meets Q. -/
def Sat (P : Program) (nt : Nat) (c : Code) (Q : Exit → DSt → Prop) (st : DSt) : Prop :=
  ∀ (ro : Option Nat) (n base : Nat) (W M : Nat → Prop) (w0 : World) (a : Act) (w : World) (L : Loc), Rel base W M w0 nt st a w L →
    c.wpIn (wideR ro) n P (fun e a' w' => ∃ st' L', Q e st' ∧ Rel base W M w0 nt st' a' w' L') a w

/-- The same of code that reads so. -/
structure SatD (P : Program) (nt : Nat) (d : DC) (Q : Exit → DSt → Prop) (st : DSt) : Prop where
  run : ∀ c, compileC P nt c = d → Sat P nt c Q st

/-- What the one state describes the other describes. -/
def Le (st st' : DSt) : Prop := ∀ (base : Nat) (W M : Nat → Prop) (w0 : World) (nt : Nat) (a : Act) (w : World) (L : Loc), Rel base W M w0 nt st a w L → ∃ L', Rel base W M w0 nt st' a w L'

theorem Le.refl (st : DSt) : Le st st := fun _ _ _ _ _ _ _ L h => ⟨L, h⟩
theorem Le.trans {a b c : DSt} (h : Le a b) (k : Le b c) : Le a c := fun _ _ _ _ _ _ _ L r => let ⟨_, r'⟩ := h _ _ _ _ _ _ _ L r; k _ _ _ _ _ _ _ _ r'

section
variable {P : Program} {nt : Nat} {Γ : Env} {Q : Exit → DSt → Prop} {st : DSt}

theorem Sat.le {c : Code} {st' : DSt} (h : Le st st') (k : Sat P nt c Q st') : Sat P nt c Q st := fun ro n base W M w0 a w L r => let ⟨L', r'⟩ := h _ _ _ _ _ _ _ L r; k ro n base W M w0 a w L' r'
theorem SatD.le {d : DC} {st' : DSt} (h : Le st st') (k : SatD P nt d Q st') : SatD P nt d Q st := ⟨fun c hc => Sat.le h (k.run c hc)⟩
theorem Sat.mono {c : Code} {Q' : Exit → DSt → Prop} (h : Sat P nt c Q st) (hq : ∀ e st, Q e st → Q' e st) : Sat P nt c Q' st :=
  fun ro n base W M w0 a w L r => wpIn_mono (h ro n base W M w0 a w L r) fun _ _ _ ⟨st', L', q, r'⟩ => ⟨st', L', hq _ _ q, r'⟩
theorem SatD.mono {d : DC} {Q' : Exit → DSt → Prop} (h : SatD P nt d Q st) (hq : ∀ e st, Q e st → Q' e st) : SatD P nt d Q' st := ⟨fun c hc => Sat.mono (h.run c hc) hq⟩
/-- At the end, too, a state may be told by less. -/
theorem SatD.mono_le {d : DC} {Q' : Exit → DSt → Prop} (h : SatD P nt d Q st) (hq : ∀ e st, Q e st → ∃ st2, Le st st2 ∧ Q' e st2) : SatD P nt d Q' st :=
  ⟨fun c hc ro n base W M w0 a w L r => wpIn_mono (h.run c hc ro n base W M w0 a w L r) fun _ _ _ ⟨_, L', q, r'⟩ => let ⟨st2, hl, q2⟩ := hq _ _ q; let ⟨L2, r2⟩ := hl _ _ _ _ _ _ _ L' r'; ⟨st2, L2, q2, r2⟩⟩

theorem SatD.skip (h : Q .normal st) : SatD P nt .skip Q st := by
  refine ⟨fun c hc => ?_⟩
  obtain rfl := inv_skip hc
  exact fun ro n base W M w0 a w L r => wpIn_skip ⟨st, L, h, r⟩
theorem SatD.exit {id : Nat} (h : Q (.exit id) st) : SatD P nt (.exit id) Q st := by
  refine ⟨fun c hc => ?_⟩
  obtain rfl := inv_exit hc
  exact fun ro n base W M w0 a w L r => wpIn_exit ⟨st, L, h, r⟩
theorem SatD.ret (h : Q .ret st) : SatD P nt .ret Q st := by
  refine ⟨fun c hc => ?_⟩
  obtain rfl := inv_ret hc
  exact fun ro n base W M w0 a w L r => wpIn_ret ⟨st, L, h, r⟩

def thenQ (k : DSt → Prop) (Q : Exit → DSt → Prop) : Exit → DSt → Prop
  | .normal, st => k st
  | e, st => Q e st

theorem SatD.seq {a b : DC} (h : SatD P nt a (thenQ (SatD P nt b Q) Q) st) : SatD P nt (.seq a b) Q st := by
  refine ⟨fun c hc => ?_⟩
  obtain ⟨a', b', rfl, ha, hb⟩ := inv_seq hc
  intro ro n base W M w0 act w L r
  refine wpIn_seq (wpIn_mono (h.run _ ha ro n base W M w0 act w L r) ?_)
  rintro e a' w' ⟨st', L', q, r'⟩
  cases e with
  | normal => exact q.run _ hb ro n base W M w0 a' w' L' r'
  | _ => exact ⟨st', L', q, r'⟩

theorem SatD.cond {x : Opd} {a b : DC} {t : Bool} (hx : x.ev st.tmps = .v (.bool t)) (ht : t = true → SatD P nt a Q st) (hf : t = false → SatD P nt b Q st) : SatD P nt (.cond x a b) Q st := by
  refine ⟨fun c hc => ?_⟩
  obtain ⟨x', a', b', rfl, hx', ha, hb⟩ := inv_cond hc
  intro ro n base W M w0 act w L r
  have := Opd.of_rel r.tmps hx'
  rw [hx] at this
  simp only [RelD, RelT] at this
  cases t with
  | true => exact wpIn_cond_true this ((ht rfl).run _ ha ro n base W M w0 act w L r)
  | false => exact wpIn_cond_false this ((hf rfl).run _ hb ro n base W M w0 act w L r)

def blockQ (id : Nat) (Q : Exit → DSt → Prop) : Exit → DSt → Prop
  | .exit id', st => if id' = id then Q .normal st else Q (.exit id') st
  | e, st => Q e st

theorem SatD.block {id : Nat} {a : DC} (h : SatD P nt a (blockQ id Q) st) : SatD P nt (.block id a) Q st := by
  refine ⟨fun c hc => ?_⟩
  obtain ⟨a', rfl, ha⟩ := inv_block hc
  intro ro n base W M w0 act w L r
  refine wpIn_block (wpIn_mono (h.run _ ha ro n base W M w0 act w L r) ?_)
  rintro e a' w' ⟨st', L', q, r'⟩
  cases e with
  | exit id' =>
    simp only [blockQ] at q
    simp only [Exit.inBlock]
    split at q
    · rename_i h; rw [if_pos h]; exact ⟨st', L', q, r'⟩
    · rename_i h; rw [if_neg h]; exact ⟨st', L', q, r'⟩
  | _ => exact ⟨st', L', q, r'⟩

/-- A loop: what holds of the state at each round's head, told by a value of any type; a measure that goes down. -/
theorem SatD.loop {α : Type} {body : DC} (R : α → DSt) (I : α → Prop) (μ : α → Nat) (x : α) (h0 : Le st (R x)) (hI : I x)
    (round : ∀ y, I y → SatD P nt body (thenQ (fun st' => ∃ z, Le st' (R z) ∧ I z ∧ μ z < μ y) Q) (R y)) : SatD P nt (.loop body) Q st := by
  refine ⟨fun c hc => ?_⟩
  obtain ⟨a', rfl, ha'⟩ := inv_loop hc
  intro ro n base W M w0 act w L r
  obtain ⟨L0, r0⟩ := h0 _ _ _ _ _ _ _ L r
  refine wpIn_loop_ghost (fun k a w => ∃ y L, μ y = k ∧ I y ∧ Rel base W M w0 nt (R y) a w L) (μ x) ⟨x, L0, rfl, hI, r0⟩ ?_
  rintro k a w ⟨y, L, rfl, hy, hr⟩
  refine wpIn_mono ((round y hy).run _ ha' ro n base W M w0 a w L hr) ?_
  rintro e a' w' ⟨st', L', q, r'⟩
  cases e with
  | normal =>
    obtain ⟨z, hle, hz, hlt⟩ := q
    obtain ⟨L2, r2⟩ := hle _ _ _ _ _ _ _ L' r'
    exact ⟨μ z, hlt, z, L2, rfl, hz, r2⟩
  | _ => exact ⟨st', L', q, r'⟩

theorem high_run {nxt : Nat} : ∀ (rs : List RO), rs.all (roOk nt) = true → ∀ (st : RS), runOk Γ nxt rs st → ∀ t, nxt + nt + 1 ≤ t → st.objs t = none → (runSt Γ nxt rs st).objs t = none
  | [], _, st, _, t, _, h => h
  | r :: rs, hall, st, hok, t, ht, h => by
    simp only [List.all_cons, Bool.and_eq_true] at hall
    simp only [runOk] at hok
    refine high_run rs hall.2 _ hok.2 t ht ?_
    rw [step_eq hok.1]
    cases hp : (vp Γ nxt r st).2 with
    | none => exact h
    | some p =>
      obtain ⟨t1, o1⟩ := p
      have e1 := put_tgt (((vp_put (Γ := Γ) (nxt := nxt) r st).resolve_left (by simp [hp])).symm.trans hp)
      simp only [putO]
      rw [if_neg]
      · exact h
      · rintro rfl
        rcases e1 with ⟨h1, h2⟩ | ⟨h1, _⟩
        · have hr := hall.1
          simp only [roOk, Bool.and_eq_true] at hr
          have hs : r.dst.isSome = true := by simpa [laysOk, h2] using hr.1.2
          obtain ⟨d, hd⟩ := Option.isSome_iff_exists.1 hs
          have hlt : d < nt := by have := hr.2; rw [hd] at this; simpa using this
          simp only [nm, nameOf, hd] at h1
          omega
        · exact h1 h

theorem annot_bare : ∀ (rs : List RO) (ts : List (Option (List Nat))), (annot rs ts).map bare = rs.map bare
  | [], _ => rfl
  | r :: rs, [] => rfl
  | r :: rs, t :: ts => by simp only [annot, List.map_cons, annot_bare rs ts]; rfl

theorem region_any (hΓ : EnvOk P Γ) (hm : P.follows .mixedOrders = true) {id : Nat} {ops : Array Oper} {draw : Bool} {rs : List RO} (hrs : compileROs P ops = some (rs.map bare)) (hok : regionOk nt draw rs = true)
    (hrun : runOk Γ st.nxt rs ⟨st.tmps, st.objs⟩) (hQ : Q .normal ⟨(runSt Γ st.nxt rs ⟨st.tmps, st.objs⟩).tmps, (runSt Γ st.nxt rs ⟨st.tmps, st.objs⟩).objs, st.nxt + nt + 1⟩) :
    Sat P nt (.region id ops draw) Q st := by
  intro ro n base W M w0 act w L r
  have hr : RelR base W M w0 nt ⟨st.tmps, st.objs⟩ act w L := ⟨r.defers, r.size, r.tmps, r.o⟩
  have hname : ∀ x ∈ rs, ∃ k, nm st.nxt x = st.nxt + k := fun x _ => by
    unfold nm nameOf
    cases x.dst with
    | none => exact ⟨0, rfl⟩
    | some d => exact ⟨d + 1, by simp only [Nat.add_assoc]⟩
  have hf : FreeAll st.nxt rs ⟨st.tmps, st.objs⟩ := ⟨r.fresh _ (Nat.le_refl _), fun x hx => by
    obtain ⟨k, hk⟩ := hname x hx
    rw [hk]
    exact r.fresh _ (by omega)⟩
  have fin : ∀ a' w' L', RelR base W M w0 nt (runSt Γ st.nxt rs ⟨st.tmps, st.objs⟩) a' w' L' → ∃ st' L', Q .normal st' ∧ Rel base W M w0 nt st' a' w' L' := by
    intro a' w' L' r'
    refine ⟨_, L', hQ, r'.defers, r'.size, r'.tmps, r'.o, ?_⟩
    have hall : rs.all (roOk nt) = true := by simp only [regionOk, Bool.and_eq_true] at hok; exact hok.1.1
    intro t ht
    exact high_run rs hall _ hrun t ht (r.fresh t (by simp only at ht; omega))
  cases draw with
  | false => exact region_text hΓ hrs hok hr hf hrun fin
  | true => exact region_draw hΓ hm hrs hok hr hf hrun fin

/-- A region. -/
theorem SatD.region (hΓ : EnvOk P Γ) (hm : P.follows .mixedOrders = true) {draw : Bool} {rs : List RO} (hrun : runOk Γ st.nxt rs ⟨st.tmps, st.objs⟩) (hQ : Q .normal ⟨(runSt Γ st.nxt rs ⟨st.tmps, st.objs⟩).tmps, (runSt Γ st.nxt rs ⟨st.tmps, st.objs⟩).objs, st.nxt + nt + 1⟩) :
    SatD P nt (.region draw rs) Q st := by
  refine ⟨fun c hc => ?_⟩
  obtain ⟨id, ops, rfl, hrs, hok⟩ := inv_region hc
  exact region_any hΓ hm (by rw [compileROs_bare hrs]; exact hrs) hok hrun hQ

/-- A region with words on what its operations touch. -/
theorem SatD.regionT (hΓ : EnvOk P Γ) (hm : P.follows .mixedOrders = true) {rs : List RO} (ts : List (Option (List Nat))) (hok : regionOk nt true (annot rs ts) = true)
    (hrun : runOk Γ st.nxt (annot rs ts) ⟨st.tmps, st.objs⟩) (hQ : Q .normal ⟨(runSt Γ st.nxt (annot rs ts) ⟨st.tmps, st.objs⟩).tmps, (runSt Γ st.nxt (annot rs ts) ⟨st.tmps, st.objs⟩).objs, st.nxt + nt + 1⟩) :
    SatD P nt (.regionT rs) Q st := by
  refine ⟨fun c hc => ?_⟩
  obtain ⟨id, ops, rfl, hrs⟩ := inv_regionT hc
  exact region_any hΓ hm (by rw [annot_bare, compileROs_bare hrs]; exact hrs) hok hrun hQ
end
end Go.DM
