/- The D-machine, part J: a region's operations one after another, calls of Go functions among them. Conditions: none. -/
import Derived.Test.YtecgedikabjcdaaDmI
import Derived.OrdersIn
import Derived.RangeFuncCalls
namespace Go.DM
open Go.RowKit
set_option linter.unusedSimpArgs false
set_option linter.unusedVariables false

/-- An operation of a region: what it does, the slot that it writes, the slot and the answer that it waits for, the operations that it comes behind. -/
structure RO where
  d : DOp
  dst : Option Nat
  guard : Option (Nat × Bool)
  after : List Nat
  touch : Option (List Nat) := none   -- the names that it may touch, where that must be known

structure RS where
  tmps : Nat → DV
  objs : Obs
  todo : List (List T)

def updT (f : Nat → DV) : Option Nat → DV → Nat → DV
  | none, _ => f
  | some k, v => fun x => if x = k then v else f x

def wantD (g : Option (Nat × Bool)) (ρ : Nat → DV) : Option Bool :=
  match g with
  | none => some true
  | some (s, want) => match ρ s with
    | .v (.bool b) => some (b == want)
    | .skip => some false
    | _ => none

/-- The name that an operation may give: by its slot. -/
def nameOf (nxt : Nat) : Option Nat → Nat
  | some d => nxt + d + 1
  | none => nxt

def eff (Γ : Env) (nxt : Nat) (r : RO) (st : RS) : Eff := sem Γ r.d (nameOf nxt r.dst) st.tmps st.objs

/-- The operands of an operation. -/
def opdsOf : DOp → List Opd
  | .mov x | .box x | .load _ _ x | .un _ x | .conv _ x | .addOff _ x | .nilCheck x | .field _ _ _ x | .extract _ x | .len x | .lenS x | .mkSlice _ _ _ _ x => [x]
  | .pick c a b => [c, a, b]
  | .alloc _ => []
  | .build _ ps | .bslice _ _ _ ps => ps.map (·.2.2)
  | .store _ x y | .bin _ x y | .eqT _ _ _ x y | .idxAddr _ x y | .arrAddr _ _ x y | .minmax _ x y | .append _ _ _ x y => [x, y]
  | .slice _ x lo hi => x :: (lo.toList ++ hi.toList)
  | .call _ xs | .callS _ xs | .mkFn _ xs => xs
  | .callv x xs => x :: xs

mutual
/-- The names in a value. -/
def names : DV → List Nat
  | .ptr r _ | .aref r _ | .aptr r _ _ _ => [r]
  | .agg cs => namesL cs
  | _ => []
def namesL : List DV → List Nat
  | [] => []
  | d :: ds => names d ++ namesL ds
end
/-- It touches no other names than it says. -/
def touchOk (r : RO) (ρ : Nat → DV) : Prop :=
  match r.touch with
  | none => True
  | some l => ∀ x ∈ opdsOf r.d, ∀ n ∈ names (x.ev ρ), n ∈ l

/-- What an operation leaves. -/
def post (Γ : Env) (nxt : Nat) (r : RO) (st : RS) : SEff :=
  if is4 r.d then semS Γ r.d st.tmps st.objs st.todo
  else ⟨(eff Γ nxt r st).ok, (eff Γ nxt r st).val, putO st.objs (eff Γ nxt r st).put, st.todo⟩

def stepOk (Γ : Env) (nxt : Nat) (r : RO) (st : RS) : Prop :=
  match wantD r.guard st.tmps with
  | some true => (post Γ nxt r st).ok ∧ touchOk r st.tmps
  | some false => True
  | none => False

def stepSt (Γ : Env) (nxt : Nat) (r : RO) (st : RS) : RS :=
  match wantD r.guard st.tmps with
  | some true => ⟨updT st.tmps r.dst (post Γ nxt r st).val, (post Γ nxt r st).objs, (post Γ nxt r st).todo⟩
  | some false => ⟨updT st.tmps r.dst .skip, st.objs, st.todo⟩
  | none => st

def scalarT : T → Bool
  | .bool _ | .int _ _ | .str _ => true
  | .tup ts => scalarTs ts
  | .agg ts => scalarTs ts
  | _ => false
where
  scalarTs : List T → Bool
  | [] => true
  | t :: ts => scalarT t && scalarTs ts

theorem scalar_rel : ∀ (n : Nat), (∀ (t : T) (w w' : World) (W W' : Nat → Prop) (v : Value), SizeOf.sizeOf t < n → scalarT t = true → RelT w W t v → RelT w' W' t v) ∧
    (∀ (ts : List T) (w w' : World) (W W' : Nat → Prop) (vs : List Value), SizeOf.sizeOf ts < n → scalarT.scalarTs ts = true → (RelL w W ts vs → RelL w' W' ts vs) ∧ (RelA w W ts vs → RelA w' W' ts vs))
  | 0 => ⟨fun _ _ _ _ _ _ h => by omega, fun _ _ _ _ _ _ h => by omega⟩
  | n + 1 => by
    have ih := scalar_rel n
    refine ⟨fun t w w' W W' v hn hs h => ?_, fun ts w w' W W' vs hn hs => ?_⟩
    · cases t with
      | agg ts => simp only [RelT] at h ⊢; obtain ⟨vs, hv, hr⟩ := h; exact ⟨vs, hv, (ih.2 ts w w' W W' _ (by simp at hn ⊢; omega) hs).1 hr⟩
      | tup ts => simp only [RelT] at h ⊢; obtain ⟨vs, hv, hr⟩ := h; exact ⟨vs, hv, (ih.2 ts w w' W W' _ (by simp at hn ⊢; omega) hs).2 hr⟩
      | bool b => simpa [RelT] using h
      | int k n => simpa [RelT] using h
      | str s => simpa [RelT] using h
      | _ => exact absurd hs Bool.false_ne_true
    · cases ts with
      | nil => exact ⟨fun h => by simpa [RelL] using h, fun h => by simpa [RelA] using h⟩
      | cons t ts =>
        simp only [scalarT.scalarTs, Bool.and_eq_true] at hs
        have h2 := ih.2 ts w w' W W'
        refine ⟨fun h => ?_, fun h => ?_⟩
        · simp only [RelL] at h ⊢
          obtain ⟨v, vs', rfl, h1, hr, hrs⟩ := h
          exact ⟨v, vs', rfl, h1, ih.1 t w w' W W' v (by simp at hn ⊢; omega) hs.1 hr, (h2 _ (by simp at hn ⊢; omega) hs.2).1 hrs⟩
        · simp only [RelA] at h ⊢
          obtain ⟨v, vs', rfl, hr, hrs⟩ := h
          exact ⟨v, vs', rfl, ih.1 t w w' W W' v (by simp at hn ⊢; omega) hs.1 hr, (h2 _ (by simp at hn ⊢; omega) hs.2).2 hrs⟩

/-- The function may be entered as a value, too. -/
def Entry (P : Program) (f : FuncId) : Prop := ∃ fn, P.funcs[f]? = some fn ∧ fn.name ≠ "runtime.NumGoroutine" ∧ fn.body.isNone = false

/-- A call on these trees returns that tree. -/
structure CallsOk (P : Program) (f : FuncId) (ts : List T) (t : T) : Prop where
  entry : Entry P f
  run : ∀ (W : Nat → Prop) (w : World) (vals : Array Value), (∀ b, W b → b < w.heap.size) → RelA w W ts vals.toList →
    Calls P f vals w fun e w' => ∃ v, e = .returned v ∧ Below w.heap.size w w' ∧ RelT w' W t v

/-- Arguments, each as its slot says. -/
def RelDA (w : World) (W : Nat → Prop) (objs : Obs) (L : Loc) (ds : List DV) (vs : List Value) : Prop :=
  vs.length = ds.length ∧ ∀ (i : Nat) (d : DV) (v : Value), ds[i]? = some d → vs[i]? = some v → RelD w W objs L d v

/-- A call that may write the objects. -/
structure CallsS (P : Program) (f : FuncId) (args : List DV) (objs : Obs) (r : SRes) : Prop where
  entry : Entry P f
  run : ∀ (base : Nat) (W M : Nat → Prop) (w0 w : World) (L : Loc) (vals : Array Value), RelO base W M w0 objs w L → RelDA w W objs L args vals.toList →
    Calls P f vals w fun e w' => ∃ v L', e = .returned v ∧ RelO base W M w0 r.objs w' L' ∧ Adv W objs L w r.objs L' w' ∧ RelD w' W r.objs L' r.val v

/-- The contracts hold. -/
structure SpecOk (P : Program) (f : FuncId) (s : Spec) : Prop where
  pure : ∀ ts, s.pre ts → CallsOk P f ts (s.fn ts) ∧ (s.scalar = true → scalarT (s.fn ts) = true)
  st : ∀ k, s.st = some k → ∀ args objs, (k args objs).ok → (∀ N, (∀ r, N ≤ r → objs r = none) → CallsS P f args objs (k args objs)) ∧ ∀ r, objs r = none → (k args objs).objs r = none
def EnvOk (P : Program) (Γ : Env) : Prop := ∀ f s, Γ f = some s → SpecOk P f s

/-- The fence that lets everything in, in a round or not. -/
def wideR (ro : Option Nat) : Fence := { Fence.wide with round := ro }

theorem callsIn_wideR {ro : Option Nat} {n : Nat} {P : Program} {f : FuncId} {args : Array Value} {w : World} {R : Ending → World → Prop} (h : Calls P f args w R) : CallsIn (wideR ro) n P f args w R := by
  have h0 : CallsIn Fence.wide n P f args w R := callsIn_wide.2 h
  exact h0

/-- What is fixed through a run: what the callers may still write; how the run began; the frame; of an iterator, what holds between two rounds. -/
structure Ctx where
  W : Nat → Prop
  go : Obs
  gL : Loc
  gw : World
  base : Nat
  M : Nat → Prop
  w0 : World
  J : Option ((Nat → Prop) → List (List T) → World → Prop)
  ro : Option Nat     -- in the round of that loop

def Ctx.At (κ : Ctx) (todo : List (List T)) (W : Nat → Prop) (base : Nat) (M : Nat → Prop) (w0 : World) : Prop :=
  match κ.J with
  | none => todo = [] ∧ W = κ.W ∧ base = κ.base ∧ M = κ.M ∧ w0 = κ.w0
  | some J => J W todo w0 ∧ base = w0.heap.size ∧ M = (fun _ => False) ∧ (∀ b, W b → κ.W b ∨ κ.gw.heap.size ≤ b) ∧ ∀ b, κ.W b → W b

/-- An iterator's caller keeps its word. -/
structure Yields (P : Program) (l : Nat) (J : (Nat → Prop) → List (List T) → World → Prop) : Prop where
  stays : ∀ (W : Nat → Prop) (todo : List (List T)) (A B : World), J W todo A → Below A.heap.size A B → J W todo B
  round : ∀ (W : Nat → Prop) (x : List T) (rest : List (List T)) (vals : Array Value) (A : World), J W (x :: rest) A → RelA A W x vals.toList →
    ∃ fn tmps assign body, (Instr.yield l vals).run P A = .ok (.round l fn tmps assign body) A ∧ RoundIn Fence.wide 0 P l fn tmps assign body A fun e B =>
      e = .returned (.bool true) ∧ ∃ W', J W' rest B ∧ Keeps W A B ∧ (∀ b, W' b → b < B.heap.size ∧ (W b ∨ A.heap.size ≤ b)) ∧ ∀ b, W b → W' b
structure Ctx.Good (P : Program) (κ : Ctx) : Prop where
  y : ∀ J, κ.J = some J → Yields P κ.gL.yl J
  rd : ∀ l, κ.ro = some l → ∃ r, κ.gw.heap[l]? = some (.loop r)

def mark (D : Nat) : Deferred := { target := .collected D, args := #[] }

structure R0 (base : Nat) (W M : Nat → Prop) (w0 : World) (nt : Nat) (tmps : Nat → DV) (objs : Obs) (a : Act) (w : World) (L : Loc) : Prop where
  size : a.tmps.size = nt
  tmps : ∀ t, RelD w W objs L (tmps t) (a.tmps.getD t Go.undef)
  o : RelO base W M w0 objs w L

/-- The state describes the frame and the world. -/
structure RelR (κ : Ctx) (nt : Nat) (st : RS) (a : Act) (w : World) (L : Loc) : Prop where
  ex : ∃ W base M w0, κ.At st.todo W base M w0 ∧ R0 base W M w0 nt st.tmps st.objs a w L
  adv : Adv κ.W κ.go κ.gL κ.gw st.objs L w
  defers : ∃ Ds : List Nat, a.defers = Ds.map mark ∧ Ds.Nodup ∧ (∀ D ∈ Ds, w.heap[D]? = some (.deferred (some [])) ∧ κ.gw.heap.size ≤ D) ∧ (κ.J.isSome = true → Ds = [])
  bg : κ.J = none → κ.base ≤ κ.gw.heap.size
  fin : ∃ N, ∀ r, N ≤ r → st.objs r = none

theorem Ctx.At.sub {κ : Ctx} {todo : List (List T)} {W : Nat → Prop} {base : Nat} {M : Nat → Prop} {w0 : World} (h : κ.At todo W base M w0) : (∀ b, W b → κ.W b ∨ κ.gw.heap.size ≤ b) ∧ ∀ b, κ.W b → W b := by
  unfold Ctx.At at h
  split at h
  · obtain ⟨_, rfl, _⟩ := h; exact ⟨fun _ h => .inl h, fun _ h => h⟩
  · exact ⟨h.2.2.2.1, h.2.2.2.2⟩

theorem Adv.comp {W V : Nat → Prop} {go objs objs' : Obs} {gL L L' : Loc} {gw w w' : World} (h : Adv V go gL gw objs L w) (k : Adv W objs L w objs' L' w') (h1 : ∀ b, W b → V b ∨ gw.heap.size ≤ b) (h2 : ∀ b, V b → W b) :
    Adv V go gL gw objs' L' w' := by
  have up : ∀ b, b < gw.heap.size → WW W objs L b → WW V objs L b := fun b hb hw => by
    rcases hw with hw | hw
    · rcases h1 b hw with h3 | h3
      · exact .inl h3
      · omega
    · exact .inr hw
  refine ⟨⟨⟨Nat.le_trans h.keeps.size k.keeps.size, fun b c e fr hb hn => ?_⟩, fun b hb => k.keeps.dfr b (h.keeps.dfr b hb), fun b r hb => k.keeps.lps b r (h.keeps.lps b r hb)⟩, fun b hb hw => ?_, fun r cs hr => ?_, fun r ver e sz rows hr => ?_, k.yl.trans h.yl⟩
  · have hlt := (Array.getElem?_eq_some_iff.1 hb).1
    exact k.keeps.blk b c e fr (h.keeps.blk b c e fr hb hn) fun x => hn (h.sub b hlt (up b hlt x))
  · refine h.sub b hb (up b hb (k.sub b (Nat.lt_of_lt_of_le hb h.keeps.size) ?_))
    rcases hw with hw | hw
    · exact .inl (h2 b hw)
    · exact .inr hw
  · obtain ⟨e1, cs1, hr1⟩ := h.box r cs hr
    obtain ⟨e2, cs2, hr2⟩ := k.box r cs1 hr1
    exact ⟨e2.trans e1, cs2, hr2⟩
  · obtain ⟨v1, e1, s1, r1, hr1, l1, k1⟩ := h.arr r ver e sz rows hr
    obtain ⟨v2, e2, s2, r2, hr2, l2, k2⟩ := k.arr r v1 e1 s1 r1 hr1
    refine ⟨v2, e2, s2, r2, hr2, Nat.le_trans l1 l2, fun hv => ?_⟩
    have hv1 : v1 = ver := by omega
    obtain ⟨a1, a2, a3⟩ := k1 hv1
    obtain ⟨b1, b2, b3⟩ := k2 (by omega)
    exact ⟨b1.trans a1, b2.trans a2, b3.trans a3⟩

section
variable {P : Program} {κ : Ctx} {base : Nat} {W M : Nat → Prop} {w0 : World} {nt : Nat} {Γ : Env} {nxt : Nat}

theorem getD_put (tmps : Array Value) (d t : Nat) (v : Value) (hd : d < tmps.size) : (tmps.setIfInBounds d v).getD t Go.undef = if t = d then v else tmps.getD t Go.undef := by
  simp only [Array.getD_eq_getD_getElem?, Array.getElem?_setIfInBounds]
  by_cases h : d = t
  · subst h; simp [hd]
  · have : t ≠ d := fun e => h e.symm
    simp [h, this]

/-- A step's value is put into its slot. -/
theorem R0.put {tmps : Nat → DV} {objs : Obs} {a : Act} {w w' : World} {L L' : Loc} {objs' : Obs} (h : R0 base W M w0 nt tmps objs a w L) (dst : Option Nat) (hdst : ∀ d, dst = some d → d < nt) {v : DV} {x : Value}
    (hO : RelO base W M w0 objs' w' L') (hA : Adv W objs L w objs' L' w') (hv : RelD w' W objs' L' v x) :
    R0 base W M w0 nt (updT tmps dst v) objs' (a.put dst x) w' L' := by
  cases dst with
  | none => exact ⟨h.size, fun t => RelD.adv hA _ _ (h.tmps t), hO⟩
  | some d =>
    refine ⟨by simpa [Act.put] using h.size, fun t => ?_, hO⟩
    simp only [updT, Act.put]
    rw [getD_put _ _ _ _ (by rw [h.size]; exact hdst d rfl)]
    by_cases ht : t = d
    · simp only [ht, if_true]; exact hv
    · simp only [ht, if_false]; exact RelD.adv hA _ _ (h.tmps t)

theorem put_defers (a : Act) (dst : Option Nat) (x : Value) : (a.put dst x).defers = a.defers := by cases dst <;> rfl

theorem RelR.put {st : RS} {a : Act} {w w' : World} {L L' : Loc} {objs' : Obs} (hR : RelR κ nt st a w L) (hat : κ.At st.todo W base M w0) (h : R0 base W M w0 nt st.tmps st.objs a w L)
    (dst : Option Nat) (hdst : ∀ d, dst = some d → d < nt) {v : DV} {x : Value} (hO : RelO base W M w0 objs' w' L') (hA : Adv W st.objs L w objs' L' w') (hv : RelD w' W objs' L' v x) (hfin : ∃ N, ∀ r, N ≤ r → objs' r = none) :
    RelR κ nt ⟨updT st.tmps dst v, objs', st.todo⟩ (a.put dst x) w' L' :=
  ⟨⟨W, base, M, w0, hat, h.put dst hdst hO hA hv⟩, hR.adv.comp hA hat.sub.1 hat.sub.2, by
    obtain ⟨Ds, h1, h2, h3, h4⟩ := hR.defers
    exact ⟨Ds, by rw [put_defers]; exact h1, h2, fun D hD => ⟨hA.keeps.dfr D (h3 D hD).1, (h3 D hD).2⟩, h4⟩, hR.bg, hfin⟩

theorem RelR.skip {st : RS} {a : Act} {w : World} {L : Loc} (h : RelR κ nt st a w L) (dst : Option Nat) (hdst : ∀ d, dst = some d → d < nt) :
    RelR κ nt ⟨updT st.tmps dst .skip, st.objs, st.todo⟩ (a.put dst Go.undef) w L := by
  obtain ⟨W, base, M, w0, hat, h0⟩ := h.ex
  exact RelR.put h hat h0 dst hdst h0.o (Adv.refl_of_keeps (Keeps.refl _ _)) (by simp [RelD]) h.fin

theorem about_wide {ro : Option Nat} (o : Oper) (w : World) (ρ : Operand → Value) : ∀ f, o.about P w ρ = some f → (wideR ro).fn f := fun _ _ => trivial

theorem compile_nodefer {o : Oper} {d : DOp} (h : compileOp P o = some d) : ∀ c, o.op ≠ .defer c := by
  intro c hc
  simp [compileOp, hc] at h

theorem compile_call {o : Oper} {d : DOp} (hc : compileOp P o = some d) (hd : (∃ f args, d = .call f args) ∨ is4 d = true) : ∃ c, o.op = .call c ∧ compileCall P c = some d := by
  have hd' : (∃ f args, d = .call f args) ∨ (∃ f args, d = .callS f args) ∨ ∃ f args, d = .callv f args := by
    rcases hd with h | h
    · exact .inl h
    · cases d <;> first | (simp [is4] at h; done) | exact .inr (.inl ⟨_, _, rfl⟩) | exact .inr (.inr ⟨_, _, rfl⟩)
  clear hd
  rcases hd' with ⟨f, args, rfl⟩ | ⟨f, args, rfl⟩ | ⟨f, args, rfl⟩
  all_goals
    unfold compileOp at hc
    cases ho : o.op <;> simp only [ho, reduceCtorEq] at hc
    case call c => exact ⟨c, rfl, hc⟩
    case binOp op t x y yt =>
      exfalso
      simp only [Option.bind_eq_bind, Option.bind_eq_some_iff] at hc
      obtain ⟨x', hx, y', hy, hc⟩ := hc
      unfold compileBin at hc
      repeat' split at hc
      all_goals cases hc
    case slice t x lo hi mx =>
      exfalso
      cases mx with
      | some m => cases hc
      | none =>
        simp only at hc
        repeat' split at hc
        all_goals simp only [Option.map_eq_some_iff, Option.pure_def, Option.bind_eq_bind, Option.bind_eq_some_iff, Option.some.injEq, reduceCtorEq, and_false, exists_false] at hc
    all_goals exfalso
    all_goals first
      | (simp only [Option.map_eq_some_iff, reduceCtorEq, and_false, exists_false] at hc; done)
      | (simp only [Option.pure_def, Option.bind_eq_bind, Option.bind_eq_some_iff, Option.some.injEq, reduceCtorEq, and_false, exists_false] at hc; done)
      | (repeat' split at hc) <;> first
          | (simp only [Option.map_eq_some_iff, Option.pure_def, Option.bind_eq_bind, Option.bind_eq_some_iff, Option.some.injEq, reduceCtorEq, and_false, exists_false] at hc; done)
          | (simp [Option.bind_eq_some_iff] at hc; done)

theorem callee_call {c : Call} {f : FuncId} {args : List Opd} (h : compileCall P c = some (.call f args)) : ∃ fn, c.callee = .value (.func f) ∧ P.funcs[f]? = some fn ∧ fn.name ≠ "runtime.NumGoroutine" ∧ fn.body.isNone = false ∧ c.args.toList.mapM Opd.of = some args := by
  unfold compileCall at h
  split at h
  · rename_i g hcal
    split at h
    · rename_i fn hfn
      split at h
      · cases h
      · rename_i hnr
        simp only [Option.map_eq_some_iff, DOp.call.injEq] at h
        obtain ⟨ys, hys, rfl, rfl⟩ := h
        refine ⟨fn, hcal, hfn, fun e => hnr (.inl e), ?_, hys⟩
        cases hb : fn.body.isNone
        · rfl
        · exact absurd (.inr hb) hnr
    · cases h
  all_goals
    repeat' split at h
    all_goals first
      | (simp only [Option.map_eq_some_iff, Option.pure_def, Option.bind_eq_bind, Option.bind_eq_some_iff, Option.some.injEq, reduceCtorEq, and_false, exists_false] at h; done)
      | skip
theorem callee_callv {c : Call} {x : Opd} {args : List Opd} (h : compileCall P c = some (.callv x args)) : ∃ t, c.callee = .value (.tmp t) ∧ x = .tmp t ∧ c.args.toList.mapM Opd.of = some args := by
  unfold compileCall at h
  split at h
  · split at h
    · split at h
      · cases h
      · simp at h
    · cases h
  · rename_i t hcal
    simp only [Option.map_eq_some_iff, DOp.callv.injEq] at h
    obtain ⟨ys, hys, rfl, rfl⟩ := h
    exact ⟨t, hcal, rfl, hys⟩
  all_goals
    repeat' split at h
    all_goals first
      | (simp only [Option.map_eq_some_iff, Option.pure_def, Option.bind_eq_bind, Option.bind_eq_some_iff, Option.some.injEq, reduceCtorEq, and_false, exists_false] at h; done)
      | skip

/-- A call that may write bears its own name; in the code it is a call as any. -/
def bareD : DOp → DOp
  | .callS f args => .call f args
  | d => d

theorem relDA_relA (W' : Nat → Prop) {lend : Bool} {objs : Obs} {w : World} {L : Loc} (hO : RelO base W M w0 objs w L) (hW : lend = true → ∀ r o b, objs r = some o → L.own r o = some b → ¬ W' b) (hW2 : ∀ b, W' b → WW W objs L b) :
    ∀ {ds : List DV} {vs : List Value}, RelDA w W objs L ds vs → tOks lend objs ds → RelA w W' (tOfs objs ds) vs
  | [], vs, h, _ => by
    have : vs = [] := List.eq_nil_of_length_eq_zero h.1
    subst this
    simp [RelA, tOfs]
  | d :: ds, [], h, _ => by have := h.1; simp at this
  | d :: ds, v :: vs, h, hk => by
    simp only [tOks] at hk
    simp only [RelA, tOfs]
    exact ⟨v, vs, rfl, (tOf_relT W' hO hW hW2).1 _ _ (h.2 0 d v rfl rfl) hk.1, relDA_relA W' hO hW hW2 ⟨by simpa using h.1, fun i x y hx hy => h.2 (i + 1) x y (by simpa using hx) (by simpa using hy)⟩ hk.2⟩

theorem pure_call (hΓ : EnvOk P Γ) {objs : Obs} {w : World} {L : Loc} (hO : RelO base W M w0 objs w L) {g : FuncId} {s : Spec} (hg : Γ g = some s) {ds : List DV} {vals : Array Value} (hlend : tOks s.scalar objs ds) (hpre : s.pre (tOfs objs ds))
    (hr : RelDA w W objs L ds vals.toList) : Calls P g vals w fun e w' => ∃ v, e = .returned v ∧ RelO base W M w0 objs w' L ∧ Adv W objs L w objs L w' ∧ RelD w' W objs L (.v (s.fn (tOfs objs ds))) v := by
  obtain ⟨hcalls, hsc⟩ := (hΓ g s hg).pure _ hpre
  have hww : ∀ b, WW W objs L b → b < w.heap.size := by
    have hle : base ≤ w.heap.size := Nat.le_trans hO.fr.size0 hO.fr.size
    rintro b (hb | ⟨r', o', h1, h2⟩)
    · have := hO.under b hb; omega
    · exact (hO.ob r' o' h1).lt h2
  cases hs : s.scalar with
  | true =>
    rw [hs] at hlend
    have hra := relDA_relA (fun _ => False) (lend := true) hO (fun _ _ _ _ _ _ x => x) (fun _ x => x.elim) hr hlend
    refine (hcalls.run (fun _ => False) w vals (fun _ x => x.elim) hra).mono ?_
    rintro e w' ⟨v, rfl, hb, hv⟩
    obtain ⟨hO', hA⟩ := RelO.grow hO hb
    refine ⟨v, rfl, hO', hA, ?_⟩
    simp only [RelD]
    exact (scalar_rel _).1 _ w' w' (fun _ => False) (WW W objs L) v (Nat.lt_succ_self _) (hsc hs) hv
  | false =>
    rw [hs] at hlend
    have hra := relDA_relA (WW W objs L) (lend := false) hO (fun x => by cases x) (fun _ x => x) hr hlend
    refine (hcalls.run (WW W objs L) w vals hww hra).mono ?_
    rintro e w' ⟨v, rfl, hb, hv⟩
    obtain ⟨hO', hA⟩ := RelO.grow hO hb
    exact ⟨v, rfl, hO', hA, by simp only [RelD]; exact hv⟩

theorem opds_relDA {objs : Obs} {w : World} {L : Loc} {a : Act} {ρ : Nat → DV} (hρ : ∀ t, RelD w W objs L (ρ t) (a.tmps.getD t Go.undef)) {xs : List Operand} {ys : List Opd} (h : xs.mapM Opd.of = some ys) : RelDA w W objs L (ys.map (·.ev ρ)) (xs.map a.eval) := by
  refine ⟨by simp [mapM_of_length h], fun i d v hd hv => ?_⟩
  rw [List.getElem?_map, Option.map_eq_some_iff] at hd hv
  obtain ⟨y, hy, rfl⟩ := hd
  obtain ⟨x, hx, rfl⟩ := hv
  exact mapM_of_rel hρ h i x y hx hy
theorem RelDA.append {objs : Obs} {w : World} {L : Loc} {ds ds' : List DV} {vs vs' : List Value} (h : RelDA w W objs L ds vs) (k : RelDA w W objs L ds' vs') : RelDA w W objs L (ds ++ ds') (vs ++ vs') := by
  refine ⟨by simp [h.1, k.1], fun i d v hd hv => ?_⟩
  by_cases hi : i < ds.length
  · rw [List.getElem?_append_left hi] at hd
    rw [List.getElem?_append_left (by rw [h.1]; exact hi)] at hv
    exact h.2 i d v hd hv
  · rw [List.getElem?_append_right (by omega)] at hd
    rw [List.getElem?_append_right (by rw [h.1]; omega), h.1] at hv
    exact k.2 _ d v hd hv
theorem relDA_caps {objs : Obs} {w : World} {L : Loc} {ts : List T} {vs : List Value} (h : RelL w (WW W objs L) ts vs) : RelDA w W objs L (ts.map .v) vs := by
  refine ⟨by simp [RelL.length h], fun i d v hd hv => ?_⟩
  rw [List.getElem?_map, Option.map_eq_some_iff] at hd
  obtain ⟨t, ht, rfl⟩ := hd
  obtain ⟨v', hv', _, hr⟩ := RelL.get h ht
  rw [hv] at hv'
  cases hv'
  simpa [RelD] using hr

theorem eval_args {o : Oper} {a : Act} {w : World} {c : Call} (ho : o.op = .call c) {g : FuncId} {caps : Array Value} (hv : ∀ f, c.callee = .value f → a.eval f = .func (.func g) #[] caps) (hc : ∃ f, c.callee = .value f) (hg : Entry P g) :
    (execOp a.eval o).run P w = .ok (.enter g (c.args.map a.eval ++ caps)) w := by
  obtain ⟨f, hf⟩ := hc
  obtain ⟨fn, hfn, hne, hbo⟩ := hg
  simp [execOp, ho, resolve, hf, hv f hf, Deferred.ofValue, invoke, callFunc, hfn, hne]
  intro hnone
  simp [hnone] at hbo

theorem roundIn_wideR {ro : Option Nat} {n l : Nat} {fn : FuncId} {tmps : Array Value} {assign body : Code} {w : World} {R : Ending → World → Prop} (h : RoundIn Fence.wide 0 P l fn tmps assign body w R) :
    RoundIn (wideR ro) n P l fn tmps assign body w R := by
  have h0 : RoundIn Fence.wide n P l fn tmps assign body w R := ⟨h.1, fun c cs _ => h.2 c cs (by simp [Fence.room, Fence.wide])⟩
  exact h0

/-- What one operation does, in the model. -/
theorem op_wpIn {ro : Option Nat} {n : Nat} (hΓ : EnvOk P Γ) (hκ : κ.Good P) {o : Oper} {r : RO} (hc : compileOp P o = some (bareD r.d)) (hdst : r.dst = o.dst) {st : RS} {a : Act} {w : World} {L : Loc} (h : RelR κ nt st a w L) (hd : ∀ d, r.dst = some d → d < nt)
    (hname : st.objs (nameOf nxt r.dst) = none) (hok : (post Γ nxt r st).ok) {K : Act → World → Prop} {Q : Exit → Act → World → Prop}
    (hK : ∀ a' w' L', RelR κ nt ⟨updT st.tmps r.dst (post Γ nxt r st).val, (post Γ nxt r st).objs, (post Γ nxt r st).todo⟩ a' w' L' → K a' w') :
    o.wpIn (wideR ro) n P a w K Q := by
  have hR := h
  obtain ⟨⟨W, base, M, w0, hat, h0⟩, hadv, hdf, hbg, hfin⟩ := h
  refine ⟨about_wide o w _, ?_⟩
  have hnd : ∀ c, o.op ≠ .defer c := compile_nodefer hc
  rw [show (wideR ro).round = ro from rfl, Oper.semAt_eq ro _ o hnd]
  by_cases h4 : is4 r.d = true
  · unfold post at hok hK
    rw [if_pos h4] at hok hK
    cases hrd : r.d <;> rw [hrd] at h4 <;> first | (simp [is4] at h4; done) | skip
    case callS f args =>
      rw [hrd] at hc hok hK
      obtain ⟨c, ho, hcc⟩ := compile_call hc (.inl ⟨f, args, rfl⟩)
      obtain ⟨fn, hcal, hfn, hne, hbo, hys⟩ := callee_call hcc
      have hrun := eval_args (P := P) (w := w) (a := a) (g := f) (caps := #[]) ho (fun x hx => by rw [hcal] at hx; cases hx; rfl) ⟨_, hcal⟩ ⟨fn, hfn, hne, hbo⟩
      rw [Array.append_empty] at hrun
      rw [hrun, Oper.uponIn_enter]
      refine ⟨fun hx => (by cases hx), callsIn_wideR ?_⟩
      simp only [semS] at hok hK
      cases hg : Γ f with
      | none => simp [hg] at hok
      | some s =>
        simp only [hg] at hok hK
        cases hk : s.st with
        | none => simp [hk] at hok
        | some k =>
          simp only [hk] at hok hK
          obtain ⟨hcl, hno⟩ := (hΓ f s hg).st k hk _ _ hok
          obtain ⟨N, hN⟩ := hfin
          have hcl := hcl N hN
          refine (hcl.run base W M w0 w L (c.args.map a.eval) h0.o (by simpa using opds_relDA h0.tmps hys)).mono ?_
          rintro e w' ⟨v, L', rfl, hO, hA, hv⟩
          have := hK _ _ _ (RelR.put hR hat h0 r.dst hd hO hA hv ⟨N, fun r hr => hno r (hN r hr)⟩)
          rw [← hdst]
          exact this
    case callv x args =>
      rw [hrd] at hc hok hK
      obtain ⟨c, ho, hcc⟩ := compile_call hc (.inr rfl)
      obtain ⟨t, hcal, rfl, hys⟩ := callee_callv hcc
      have ht := h0.tmps t
      simp only [semS, show Opd.ev st.tmps (.tmp t) = st.tmps t from rfl] at hok hK
      cases hv : st.tmps t with
      | v tv =>
        rw [hv] at ht hok hK
        cases tv with
        | fn fv caps =>
          cases fv with
          | func g =>
            simp only at hok hK
            simp only [RelD, RelT] at ht
            obtain ⟨vs, hx, hcaps⟩ := ht
            unfold callSem at hok hK
            cases hg : Γ g with
            | none => simp [hg, bad] at hok
            | some s =>
              simp only [hg] at hok hK
              obtain ⟨hlend, hpre⟩ := hok
              have hrun := eval_args (P := P) (w := w) (a := a) (g := g) (caps := vs) ho (fun x hx' => by rw [hcal] at hx'; cases hx'; exact hx) ⟨_, hcal⟩ ((hΓ g s hg).pure _ hpre).1.entry
              rw [hrun, Oper.uponIn_enter]
              refine ⟨fun hx => (by cases hx), callsIn_wideR ?_⟩
              have hda : RelDA w W st.objs L (args.map (·.ev st.tmps) ++ caps.map .v) (c.args.map a.eval ++ vs).toList := by
                simpa using RelDA.append (opds_relDA h0.tmps hys) (relDA_caps hcaps)
              refine (pure_call hΓ h0.o hg hlend hpre hda).mono ?_
              rintro e w' ⟨v, rfl, hO, hA, hv'⟩
              have := hK _ _ _ (RelR.put hR hat h0 r.dst hd hO hA hv' hfin)
              rw [← hdst]
              exact this
          | _ => simp at hok
        | _ => simp at hok
      | yld =>
        rw [hv] at ht hok hK
        simp only [RelD] at ht
        cases htd : st.todo with
        | nil => simp [htd] at hok
        | cons y rest =>
          simp only [htd] at hok hK
          obtain ⟨hlend, harg, hobj⟩ := hok
          rw [htd] at hat
          unfold Ctx.At at hat
          cases hJ : κ.J with
          | none => simp [hJ] at hat
          | some J =>
            simp only [hJ] at hat
            obtain ⟨hj, rfl, rfl, hw1, hw2⟩ := hat
            have hy := hκ.y J hJ
            have hbw : Below w0.heap.size w0 w := ⟨h0.o.fr.os, h0.o.fr.tape, h0.o.fr.output, h0.o.fr.size, fun k hk => h0.o.fr.block k hk (fun x => x)⟩
            have hjw := hy.stays W (y :: rest) w0 w hj hbw
            have hww : ∀ b, WW W st.objs L b → W b := by
              rintro b (hb | ⟨r', o', h1, _⟩)
              · exact hb
              · rw [hobj] at h1; cases h1
            have hra : RelA w W y (c.args.map a.eval).toList := by
              rw [← harg]
              have := relDA_relA W (lend := false) h0.o (fun x => by cases x) (fun b hb => .inl hb) (opds_relDA h0.tmps hys) hlend
              simpa using this
            obtain ⟨fn, tmps, assign, body, hyr, hround⟩ := hy.round W y rest (c.args.map a.eval) w hjw hra
            have hrun : (execOp a.eval o).run P w = .ok (.round L.yl fn tmps assign body) w := by
              rw [← hadv.yl] at hyr
              have : a.eval (.tmp t) = .func (.yield L.yl) #[] #[] := ht
              simp [execOp, ho, resolve, hcal, this, Deferred.ofValue, invoke, hyr]
            rw [hrun, Oper.uponIn_round]
            refine ⟨fun hx => (by cases hx), roundIn_wideR ?_⟩
            rw [← hadv.yl] at hround
            refine hround.mono ?_
            rintro e B ⟨rfl, W', hj', hk', hb', hmono⟩
            have hlow : ∀ b, W b → b < w.heap.size := fun b hb => by
              have h1 := h0.o.under b hb
              have h2 := h0.o.fr.size
              omega
            have hA0 : Adv W st.objs L w st.objs L B := Adv.refl_of_keeps (hk'.mono fun b hb => .inl hb)
            obtain ⟨Ds, hDs, hDn, hDk, hDJ⟩ := hdf
            have move : ∀ (d : DV) (x : Value), RelD w W st.objs L d x → RelD B W' st.objs L d x := by
              refine RelD.adv ⟨hk'.mono fun b hb => .inl hb, fun b hb hw => ?_, fun r cs hr => ⟨rfl, cs, hr⟩, fun r ver e sz rows hr => ⟨ver, e, sz, rows, hr, Nat.le_refl _, fun _ => ⟨rfl, rfl, rfl⟩⟩, rfl⟩
              rcases hw with hw | ⟨r', o', h1, _⟩
              · rcases (hb' b hw).2 with h2 | h2
                · exact .inl h2
                · omega
              · rw [hobj] at h1; cases h1
            have hO' : RelO B.heap.size W' (fun _ => False) B st.objs B L := by
              refine ⟨Fr.refl (Nat.le_refl _), fun r o ho => ?_, fun r r' o o' b _ ho => ?_, fun r o b ho => ?_, fun b hb => (hb' b hb).1⟩
              all_goals rw [hobj] at ho; cases ho
            have hR : RelR κ nt ⟨updT st.tmps r.dst (.v (.bool true)), st.objs, rest⟩ (a.put r.dst (.bool true)) B L := by
              refine ⟨⟨W', B.heap.size, fun _ => False, B, ?_, ?_⟩, hadv.comp hA0 hw1 hw2, ⟨Ds, by rw [put_defers]; exact hDs, hDn, fun D hD => ⟨hk'.dfr D (hDk D hD).1, (hDk D hD).2⟩, hDJ⟩, hbg, hfin⟩
              · unfold Ctx.At
                simp only [hJ]
                refine ⟨hj', trivial, trivial, fun b hb => ?_, fun b hb => hmono b (hw2 b hb)⟩
                rcases (hb' b hb).2 with h1 | h1
                · exact hw1 b h1
                · exact .inr (Nat.le_trans hadv.keeps.size h1)
              · have h1 : R0 B.heap.size W' (fun _ => False) B nt st.tmps st.objs a B L := ⟨h0.size, fun t => move _ _ (h0.tmps t), hO'⟩
                exact h1.put r.dst hd hO' (Adv.refl_of_keeps (Keeps.refl _ _)) (by simp [RelD, RelT])
            have := hK _ _ _ hR
            rw [← hdst]
            exact this
      | _ => rw [hv] at hok; simp at hok
  · have h4' : is4 r.d = false := by simpa using h4
    have hbd : bareD r.d = r.d := by cases hrd : r.d <;> rw [hrd] at h4' <;> first | rfl | (simp [is4] at h4'; done)
    rw [hbd] at hc
    unfold post at hok hK
    rw [if_neg h4] at hok hK
    simp only at hok hK
    by_cases hcall : ∃ f args, r.d = .call f args
    · obtain ⟨f, args, hfa⟩ := hcall
      rw [hfa] at hc
      obtain ⟨c, ho, hcc⟩ := compile_call hc (.inl ⟨f, args, rfl⟩)
      obtain ⟨fn, hcal, hfn, hne, hbo, hys⟩ := callee_call hcc
      have hrun := eval_args (P := P) (w := w) (a := a) (g := f) (caps := #[]) ho (fun x hx => by rw [hcal] at hx; cases hx; rfl) ⟨_, hcal⟩ ⟨fn, hfn, hne, hbo⟩
      rw [Array.append_empty] at hrun
      rw [hrun, Oper.uponIn_enter]
      refine ⟨fun hx => (by cases hx), callsIn_wideR ?_⟩
      simp only [eff, hfa, sem, callSem] at hok hK
      cases hg : Γ f with
      | none => simp [hg, bad] at hok
      | some s =>
        simp only [hg] at hok hK
        obtain ⟨hlend, hpre⟩ := hok
        refine (pure_call hΓ h0.o hg hlend hpre (vals := c.args.map a.eval) (by simpa using opds_relDA h0.tmps hys)).mono ?_
        rintro e w' ⟨v, rfl, hO, hA, hv'⟩
        have := hK _ _ _ (RelR.put hR hat h0 r.dst hd hO hA hv' hfin)
        rw [← hdst]
        exact this
    · have hfin' : ∃ N, ∀ r', N ≤ r' → (putO st.objs (eff Γ nxt r st).put) r' = none := by
        obtain ⟨N, hN⟩ := hfin
        cases hp : (eff Γ nxt r st).put with
        | none => exact ⟨N, hN⟩
        | some q =>
          obtain ⟨t, o'⟩ := q
          refine ⟨max N (t + 1), fun r' hr' => ?_⟩
          simp only [putO]
          rw [if_neg (by omega)]
          exact hN r' (by omega)
      obtain ⟨nx, v, w', L', hrun, hnx, hO, hA, hv⟩ := op_sound (Γ := Γ) (name := nameOf nxt r.dst) hc (fun f args e => hcall ⟨f, args, e⟩) h0.tmps h0.o hname hok
      rw [hrun]
      rcases hnx with rfl | ⟨rfl, rfl⟩
      · rw [Oper.uponIn_value, ← hdst]
        exact hK _ _ _ (RelR.put hR hat h0 r.dst hd hO hA hv hfin')
      · rw [Oper.uponIn_skip, ← hdst]
        exact hK _ _ _ (RelR.put hR hat h0 r.dst hd hO hA hv hfin')
end
end Go.DM
