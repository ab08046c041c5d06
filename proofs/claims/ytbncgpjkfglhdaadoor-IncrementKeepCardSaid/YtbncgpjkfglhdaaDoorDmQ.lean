/- The D-machine, part Q: contracts put together; from the machine's readings to the claim's. Conditions: none. -/
import Derived.Test.YtbncgpjkfglhdaaDoorDmP
namespace Go.DM
open Go.RowKit
set_option linter.unusedSimpArgs false

/-- Contracts by a list. -/
def envOf : List (Nat × Spec) → Env
  | [], _ => none
  | (g, s) :: l, f => if f = g then some s else envOf l f

theorem EnvOk.nil {P : Program} : EnvOk P (envOf []) := fun _ _ h => by cases h
theorem EnvOk.cons {P : Program} {f : Nat} {s : Spec} {l : List (Nat × Spec)} (h : EnvOk P (envOf l))
    (k : ∀ ts, s.pre ts → CallsOk P f ts (s.fn ts) ∧ (s.scalar = true → scalarT (s.fn ts) = true)) : EnvOk P (envOf ((f, s) :: l)) := by
  intro g s' hg ts hp
  simp only [envOf] at hg
  split at hg
  · rename_i e; cases hg; subst e; exact k ts hp
  · exact h g s' hg ts hp
theorem envOf_cons (g f : Nat) (s : Spec) (l : List (Nat × Spec)) : envOf ((g, s) :: l) f = if f = g then some s else envOf l f := rfl
theorem envOf_nil (f : Nat) : envOf [] f = none := rfl
attribute [simp] envOf_cons envOf_nil

/-- A call whose arguments read as trees that hold no memory. -/
theorem CallsOk.calls {P : Program} {f : FuncId} {ts : List T} {t : T} (h : CallsOk P f ts t) {w : World} {vals : Array Value} (hr : RelA w (fun _ => False) ts vals.toList) :
    Calls P f vals w fun e w' => ∃ v, e = .returned v ∧ Below w.heap.size w w' ∧ RelT w' (fun _ => False) t v :=
  h (fun _ => False) w vals (fun _ h => h.elim) hr
@[simp] theorem wrap_lit (n : Nat) (h : n < 9223372036854775808) : IntKind.i64.wrap (no_index (@OfNat.ofNat Int n instOfNat)) = @OfNat.ofNat Int n instOfNat := by
  have e : (@OfNat.ofNat Int n instOfNat) = (n : Int) := rfl
  rw [e, wrap_id (by omega)]
@[simp] theorem wrap_neg (n : Nat) (h : n < 9223372036854775808) : IntKind.i64.wrap (-(no_index (@OfNat.ofNat Int n instOfNat))) = -(@OfNat.ofNat Int n instOfNat) := by
  have e : (@OfNat.ofNat Int n instOfNat) = (n : Int) := rfl
  rw [e, wrap_id (by omega)]
end Go.DM
