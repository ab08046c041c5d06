/- The D-machine, part J: a region's operations one after another, calls of Go functions among them. Conditions: none. -/
import Derived.Test.YtbncgpjkfglhdaaDoorDmI
import Derived.OrdersIn
import Derived.RangeFuncCalls
namespace Go.DM
open Go.RowKit
set_option linter.unusedSimpArgs false

/-- An operation of a region: what it does, the slot that it writes, the slot and the answer that it waits for, the operations that it comes behind. -/
structure RO where
  d : DOp
  dst : Option Nat
  guard : Option (Nat × Bool)
  after : List Nat
  touch : Option (List Nat) := none   -- the names that it may touch, where that must be known

structure RS where
  tmps : Nat → DV
  objs : Obs

def updT (f : Nat → DV) : Option Nat → DV → Nat → DV
  | none, _ => f
  | some k, v => fun x => if x = k then v else f x

def wantD (g : Option (Nat × Bool)) (ρ : Nat → DV) : Option Bool :=
  match g with
  | none => some true
  | some (s, want) => match ρ s with
    | .v (.bool b) => some (b == want)
    | .skip => some false
    | _ => none

/-- The name that an operation may give: by its slot. -/
def nameOf (nxt : Nat) : Option Nat → Nat
  | some d => nxt + d + 1
  | none => nxt

def eff (Γ : Env) (nxt : Nat) (r : RO) (st : RS) : Eff := sem Γ r.d (nameOf nxt r.dst) st.tmps st.objs

/-- The operands of an operation. -/
def opdsOf : DOp → List Opd
  | .mov x | .box x | .load _ _ x | .un _ x | .conv _ x | .addOff _ x | .nilCheck x | .field _ _ _ x | .extract _ x | .len x | .lenS x | .mkSlice _ _ _ _ x => [x]
  | .pick c a b => [c, a, b]
  | .alloc _ => []
  | .build _ ps | .bslice _ _ _ ps => ps.map (·.2.2)
  | .store _ x y | .bin _ x y | .eqT _ _ _ x y | .idxAddr _ x y | .arrAddr _ _ x y | .minmax _ x y | .append _ _ _ x y => [x, y]
  | .slice _ x lo hi => x :: (lo.toList ++ hi.toList)
  | .call _ xs | .mkFn _ xs => xs

mutual
/-- The names in a value. -/
def names : DV → List Nat
  | .ptr r _ | .aref r _ | .aptr r _ _ _ => [r]
  | .agg cs => namesL cs
  | _ => []
def namesL : List DV → List Nat
  | [] => []
  | d :: ds => names d ++ namesL ds
end
/-- It touches no other names than it says. -/
def touchOk (r : RO) (ρ : Nat → DV) : Prop :=
  match r.touch with
  | none => True
  | some l => ∀ x ∈ opdsOf r.d, ∀ n ∈ names (x.ev ρ), n ∈ l

def stepOk (Γ : Env) (nxt : Nat) (r : RO) (st : RS) : Prop :=
  match wantD r.guard st.tmps with
  | some true => (eff Γ nxt r st).ok ∧ touchOk r st.tmps
  | some false => True
  | none => False

def stepSt (Γ : Env) (nxt : Nat) (r : RO) (st : RS) : RS :=
  match wantD r.guard st.tmps with
  | some true => ⟨updT st.tmps r.dst (eff Γ nxt r st).val, putO st.objs (eff Γ nxt r st).put⟩
  | some false => ⟨updT st.tmps r.dst .skip, st.objs⟩
  | none => st

def scalarT : T → Bool
  | .bool _ | .int _ _ | .str _ => true
  | .tup ts => scalarTs ts
  | .agg ts => scalarTs ts
  | _ => false
where
  scalarTs : List T → Bool
  | [] => true
  | t :: ts => scalarT t && scalarTs ts

theorem scalar_rel : ∀ (n : Nat), (∀ (t : T) (w w' : World) (W W' : Nat → Prop) (v : Value), SizeOf.sizeOf t < n → scalarT t = true → RelT w W t v → RelT w' W' t v) ∧
    (∀ (ts : List T) (w w' : World) (W W' : Nat → Prop) (vs : List Value), SizeOf.sizeOf ts < n → scalarT.scalarTs ts = true → (RelL w W ts vs → RelL w' W' ts vs) ∧ (RelA w W ts vs → RelA w' W' ts vs))
  | 0 => ⟨fun _ _ _ _ _ _ h => by omega, fun _ _ _ _ _ _ h => by omega⟩
  | n + 1 => by
    have ih := scalar_rel n
    refine ⟨fun t w w' W W' v hn hs h => ?_, fun ts w w' W W' vs hn hs => ?_⟩
    · cases t with
      | agg ts => simp only [RelT] at h ⊢; obtain ⟨vs, hv, hr⟩ := h; exact ⟨vs, hv, (ih.2 ts w w' W W' _ (by simp at hn ⊢; omega) hs).1 hr⟩
      | tup ts => simp only [RelT] at h ⊢; obtain ⟨vs, hv, hr⟩ := h; exact ⟨vs, hv, (ih.2 ts w w' W W' _ (by simp at hn ⊢; omega) hs).2 hr⟩
      | bool b => simpa [RelT] using h
      | int k n => simpa [RelT] using h
      | str s => simpa [RelT] using h
      | _ => exact absurd hs Bool.false_ne_true
    · cases ts with
      | nil => exact ⟨fun h => by simpa [RelL] using h, fun h => by simpa [RelA] using h⟩
      | cons t ts =>
        simp only [scalarT.scalarTs, Bool.and_eq_true] at hs
        have h2 := ih.2 ts w w' W W'
        refine ⟨fun h => ?_, fun h => ?_⟩
        · simp only [RelL] at h ⊢
          obtain ⟨v, vs', rfl, h1, hr, hrs⟩ := h
          exact ⟨v, vs', rfl, h1, ih.1 t w w' W W' v (by simp at hn ⊢; omega) hs.1 hr, (h2 _ (by simp at hn ⊢; omega) hs.2).1 hrs⟩
        · simp only [RelA] at h ⊢
          obtain ⟨v, vs', rfl, hr, hrs⟩ := h
          exact ⟨v, vs', rfl, ih.1 t w w' W W' v (by simp at hn ⊢; omega) hs.1 hr, (h2 _ (by simp at hn ⊢; omega) hs.2).2 hrs⟩

/-- A call on these trees returns that tree. -/
def CallsOk (P : Program) (f : FuncId) (ts : List T) (t : T) : Prop :=
  ∀ (W : Nat → Prop) (w : World) (vals : Array Value), (∀ b, W b → b < w.heap.size) → RelA w W ts vals.toList →
    Calls P f vals w fun e w' => ∃ v, e = .returned v ∧ Below w.heap.size w w' ∧ RelT w' W t v

/-- The contracts hold. -/
def EnvOk (P : Program) (Γ : Env) : Prop :=
  ∀ f s, Γ f = some s → ∀ ts, s.pre ts → CallsOk P f ts (s.fn ts) ∧ (s.scalar = true → scalarT (s.fn ts) = true)

/-- The fence that lets everything in, in a round or not. -/
def wideR (ro : Option Nat) : Fence := { Fence.wide with round := ro }

theorem callsIn_wideR {ro : Option Nat} {n : Nat} {P : Program} {f : FuncId} {args : Array Value} {w : World} {R : Ending → World → Prop} (h : Calls P f args w R) : CallsIn (wideR ro) n P f args w R := by
  have h0 : CallsIn Fence.wide n P f args w R := callsIn_wide.2 h
  exact h0

structure RelR (base : Nat) (W M : Nat → Prop) (w0 : World) (nt : Nat) (st : RS) (a : Act) (w : World) (L : Loc) : Prop where
  defers : a.defers = []
  size : a.tmps.size = nt
  tmps : ∀ t, RelD w W st.objs L (st.tmps t) (a.tmps.getD t Go.undef)
  o : RelO base W M w0 st.objs w L

section
variable {P : Program} {base : Nat} {W M : Nat → Prop} {w0 : World} {nt : Nat} {Γ : Env} {nxt : Nat}

theorem getD_put (tmps : Array Value) (d t : Nat) (v : Value) (hd : d < tmps.size) : (tmps.setIfInBounds d v).getD t Go.undef = if t = d then v else tmps.getD t Go.undef := by
  simp only [Array.getD_eq_getD_getElem?, Array.getElem?_setIfInBounds]
  by_cases h : d = t
  · subst h; simp [hd]
  · have : t ≠ d := fun e => h e.symm
    simp [h, this]

/-- A step's value is put into its slot. -/
theorem RelR.put {st : RS} {a : Act} {w w' : World} {L L' : Loc} {objs' : Obs} (h : RelR base W M w0 nt st a w L) (dst : Option Nat) (hdst : ∀ d, dst = some d → d < nt) {v : DV} {x : Value}
    (hO : RelO base W M w0 objs' w' L') (hA : Adv W st.objs L w objs' L' w') (hv : RelD w' W objs' L' v x) :
    RelR base W M w0 nt ⟨updT st.tmps dst v, objs'⟩ (a.put dst x) w' L' := by
  cases dst with
  | none => exact ⟨h.defers, h.size, fun t => RelD.adv hA _ _ (h.tmps t), hO⟩
  | some d =>
    refine ⟨h.defers, by simpa [Act.put] using h.size, fun t => ?_, hO⟩
    simp only [updT, Act.put]
    rw [getD_put _ _ _ _ (by rw [h.size]; exact hdst d rfl)]
    by_cases ht : t = d
    · simp only [ht, if_true]; exact hv
    · simp only [ht, if_false]; exact RelD.adv hA _ _ (h.tmps t)

theorem about_wide {ro : Option Nat} (o : Oper) (w : World) (ρ : Operand → Value) : ∀ f, o.about P w ρ = some f → (wideR ro).fn f := fun _ _ => trivial

theorem compile_nodefer {o : Oper} {d : DOp} (h : compileOp P o = some d) : ∀ c, o.op ≠ .defer c := by
  intro c hc
  simp [compileOp, hc] at h

theorem compile_call {o : Oper} {f : FuncId} {args : List Opd} (hc : compileOp P o = some (.call f args)) : ∃ c, o.op = .call c ∧ compileCall P c = some (.call f args) := by
  unfold compileOp at hc
  cases ho : o.op <;> simp only [ho, reduceCtorEq] at hc
  case call c => exact ⟨c, rfl, hc⟩
  case binOp op t x y yt =>
    exfalso
    simp only [Option.bind_eq_bind, Option.bind_eq_some_iff] at hc
    obtain ⟨x', hx, y', hy, hc⟩ := hc
    unfold compileBin at hc
    repeat' split at hc
    all_goals cases hc
  case slice t x lo hi mx =>
    exfalso
    cases mx with
    | some m => cases hc
    | none =>
      simp only at hc
      repeat' split at hc
      all_goals simp only [Option.map_eq_some_iff, Option.pure_def, Option.bind_eq_bind, Option.bind_eq_some_iff, Option.some.injEq, reduceCtorEq, and_false, exists_false] at hc
  all_goals exfalso
  all_goals first
    | (simp only [Option.map_eq_some_iff, reduceCtorEq, and_false, exists_false] at hc; done)
    | (simp only [Option.pure_def, Option.bind_eq_bind, Option.bind_eq_some_iff, Option.some.injEq, reduceCtorEq, and_false, exists_false] at hc; done)
    | (repeat' split at hc) <;> first
        | (simp only [Option.map_eq_some_iff, Option.pure_def, Option.bind_eq_bind, Option.bind_eq_some_iff, Option.some.injEq, reduceCtorEq, and_false, exists_false] at hc; done)
        | (simp [Option.bind_eq_some_iff] at hc; done)

/-- What one operation does, in the model. -/
theorem op_wpIn {ro : Option Nat} {n : Nat} (hΓ : EnvOk P Γ) {o : Oper} {r : RO} (hc : compileOp P o = some r.d) (hdst : r.dst = o.dst) {st : RS} {a : Act} {w : World} {L : Loc} (h : RelR base W M w0 nt st a w L) (hd : ∀ d, r.dst = some d → d < nt)
    (hname : st.objs (nameOf nxt r.dst) = none) (hok : (eff Γ nxt r st).ok) {K : Act → World → Prop} {Q : Exit → Act → World → Prop}
    (hK : ∀ a' w' L', RelR base W M w0 nt ⟨updT st.tmps r.dst (eff Γ nxt r st).val, putO st.objs (eff Γ nxt r st).put⟩ a' w' L' → K a' w') :
    o.wpIn (wideR ro) n P a w K Q := by
  refine ⟨about_wide o w _, ?_⟩
  rw [show (wideR ro).round = ro from rfl, Oper.semAt_eq ro _ o (compile_nodefer hc)]
  by_cases hcall : ∃ f args, r.d = .call f args
  · obtain ⟨f, args, hfa⟩ := hcall
    rw [hfa] at hc
    obtain ⟨c, ho, hcc⟩ := compile_call hc
    clear hc
    unfold compileCall at hcc
    split at hcc
    · rename_i g hcal
      split at hcc
      · rename_i fn hfn
        split at hcc
        · cases hcc
        · rename_i hnr
          simp only [Option.map_eq_some_iff, DOp.call.injEq] at hcc
          obtain ⟨ys, hys, rfl, rfl⟩ := hcc
          have hrun : (execOp a.eval o).run P w = .ok (.enter g (c.args.map a.eval)) w := by
            have hne : fn.name ≠ "runtime.NumGoroutine" := fun e => hnr (.inl e)
            have hbo : fn.body.isNone = false := by
              cases hb : fn.body.isNone
              · rfl
              · exact absurd (.inr hb) hnr
            simp [execOp, ho, resolve, hcal, Act.eval, Deferred.ofValue, invoke, callFunc, hfn, hne]
            intro hnone
            simp [hnone] at hbo
          rw [hrun, Oper.uponIn_enter]
          refine ⟨fun hx => (by cases hx), callsIn_wideR ?_⟩
          simp only [eff, hfa, sem, callSem] at hok hK
          cases hg : Γ g with
          | none => simp [hg, bad] at hok
          | some s =>
            simp only [hg] at hok hK
            obtain ⟨hlend, hpre⟩ := hok
            obtain ⟨hcalls, hsc⟩ := hΓ g s hg _ hpre
            have hle : base ≤ w.heap.size := Nat.le_trans h.o.fr.size0 h.o.fr.size
            have hww : ∀ b, WW W st.objs L b → b < w.heap.size := by
              rintro b (hb | ⟨r', o', h1, h2⟩)
              · have := h.o.under b hb; omega
              · exact (h.o.ob r' o' h1).lt h2
            cases hs : s.scalar with
            | true =>
              rw [hs] at hlend
              have hr := opds_relA (fun _ => False) (lend := true) h.o (fun _ _ _ _ _ _ x => x) (fun _ x => x.elim) h.tmps hys hlend
              refine (hcalls (fun _ => False) w (c.args.map a.eval) (fun _ x => x.elim) (by simpa using hr)).mono ?_
              rintro e w' ⟨v, rfl, hb, hv⟩
              obtain ⟨hO, hA⟩ := RelO.grow h.o hb
              have hv' : RelT w' (WW W st.objs L) (s.fn (tOfs st.objs (ys.map (·.ev st.tmps)))) v := (scalar_rel _).1 _ w' w' (fun _ => False) (WW W st.objs L) v (Nat.lt_succ_self _) (hsc hs) hv
              have := hK _ _ _ (RelR.put h r.dst hd (v := .v (s.fn (tOfs st.objs (ys.map (·.ev st.tmps))))) (x := v) hO hA (by simp only [RelD]; exact hv'))
              rw [← hdst]
              exact this
            | false =>
              rw [hs] at hlend
              have hr := opds_relA (WW W st.objs L) (lend := false) h.o (fun x => by cases x) (fun _ x => x) h.tmps hys hlend
              refine (hcalls (WW W st.objs L) w (c.args.map a.eval) hww (by simpa using hr)).mono ?_
              rintro e w' ⟨v, rfl, hb, hv⟩
              obtain ⟨hO, hA⟩ := RelO.grow h.o hb
              have := hK _ _ _ (RelR.put h r.dst hd (v := .v (s.fn (tOfs st.objs (ys.map (·.ev st.tmps))))) (x := v) hO hA (by simp only [RelD]; exact hv))
              rw [← hdst]
              exact this
      · cases hcc
    all_goals
      repeat' split at hcc
      all_goals first
        | (simp only [Option.map_eq_some_iff, Option.pure_def, Option.bind_eq_bind, Option.bind_eq_some_iff, Option.some.injEq, reduceCtorEq, and_false, exists_false] at hcc; done)
        | skip
  · obtain ⟨nx, v, w', L', hrun, hnx, hO, hA, hv⟩ := op_sound (Γ := Γ) (name := nameOf nxt r.dst) hc (fun f args e => hcall ⟨f, args, e⟩) h.tmps h.o hname hok
    rw [hrun]
    rcases hnx with rfl | ⟨rfl, rfl⟩
    · rw [Oper.uponIn_value, ← hdst]
      exact hK _ _ _ (RelR.put h r.dst hd hO hA hv)
    · rw [Oper.uponIn_skip, ← hdst]
      exact hK _ _ _ (RelR.put h r.dst hd hO hA hv)
end
end Go.DM
