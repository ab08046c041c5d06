/- emendatelaw39.ItemsDerivationIsParse answers true at every input whose reading is of bulk at most 1048576, and leaves its arguments as they were. Conditions: the bound on the bulk (the statement's second form). -/
import Derived.Test.YtecgedikabjcdaaXaf
import Derived.Test.YtecgedikabjcdaaXaf
import Derived.Test.YtecgedikabjcdaaXaf
import Derived.Test.YtecgedikabjcdaaRows
import Derived.WalkKit
import Derived.ProofKit
import Derived.OpenShut
import Derived.JoinedCond
import Derived.Deep.DeepHandedRow
namespace Go.Proofs.Ytecgedikabjcdaa.der
open Go.ChangeShapes Go.WideShapes Go.ChangeAt Go.RowKit Go.DM Go.Proofs
set_option linter.unusedVariables false
def tyL : List TypeId := [24, 28, 3, 22, 72, 25, 66, 64, 117, 26, 50, 48]
theorem tyOk : plainTys Try.prog tyL = true := by kernel_rfl
theorem ty24 : tyOf Try.prog 9 24 = some normalTy := by kernel_rfl
theorem ty28 : tyOf Try.prog 9 28 = some latticeTy := by kernel_rfl
theorem und50 : (Try.prog.underlying 50).bind (fun d => match d with | .struct fs => some (fs.toList.map (·.type)) | _ => none) = some [3, 48] := by kernel_rfl
theorem und48 : Try.prog.underlying 48 = some (.slice 50) := by kernel_rfl
theorem und3 : Try.prog.underlying 3 = some (.int .i64) := by kernel_rfl
theorem res7 : Try.f7.resultTypes = #[4] := by kernel_rfl
theorem und4 : Try.prog.underlying 4 = some .bool := by kernel_rfl
theorem pars7 : Try.f7.params.toList = [24, 28, 50] := by kernel_rfl
theorem szp7 : Try.f7.params.size = 3 := by kernel_rfl
theorem par7 : ∀ t ∈ Try.f7.params.toList, t ∈ tyL := by rw [pars7]; simp [tyL]
theorem own : ownKnob Try.prog.godebug = none := by kernel_rfl
theorem str50 : ∃ fs : Array Field, Try.prog.underlying 50 = some (.struct fs) ∧ fs.toList.map (·.type) = [3, 48] := by
  have h := und50
  obtain ⟨d, h1, h2⟩ := Option.bind_eq_some_iff.1 h
  cases d with
  | struct fs => exact ⟨fs, h1, by simpa using h2⟩
  | _ => simp at h2
mutual
theorem sz_le : ∀ d : Tr, d.sz ≤ szL d.enc
  | .mk n ks => by
    have := szs_le ks
    simp only [Tr.enc, Tr.sz, szL, szT]; omega
theorem szs_le : ∀ ks : List Tr, trsSz ks ≤ szR (trsT ks)
  | [] => by simp [trsSz]
  | k :: ks => by
    have := sz_le k
    have := szs_le ks
    simp only [trsT, trsSz, szR]; omega
end
theorem tr_of : ∀ (n : Nat) (ts : List T), HasTy Try.prog n 50 ts → ∃ d : Tr, ts = d.enc := by
  intro n
  induction n using Nat.strongRecOn with
  | _ n ih =>
    intro ts h
    obtain ⟨fs, hu, hfs⟩ := str50
    cases n with
    | zero => exact h.elim
    | succ n =>
      unfold HasTy at h
      rw [hu] at h
      simp only [hfs, allTys] at h
      obtain ⟨a, _, rfl, h1, b, _, rfl, h2, rfl⟩ := h
      cases n with
      | zero => exact h1.elim
      | succ n =>
        unfold HasTy at h1 h2
        rw [und3] at h1
        rw [und48] at h2
        obtain ⟨x, rfl, _⟩ := h1
        obtain ⟨rows, rfl, _, hr⟩ := h2
        obtain ⟨l, rfl⟩ := rows_of (enc := Tr.enc) fun r hr' => ih n (by omega) r (hr r hr')
        exact ⟨.mk x l, by rw [Tr.enc, trsT_map]; rfl⟩
theorem bulk_sum {H : Type} : ∀ l : List (DataW H), Rows.uptoBulkAll l = (l.map Rows.uptoBulk).sum
  | [] => rfl
  | x :: l => by simp only [Rows.uptoBulkAll, List.map_cons, List.sum_cons, bulk_sum l]
theorem bulk {H : Type} : Bulk (Rows.uptoBulk (H := H)) := by
  refine ⟨fun d => ?_, fun l => ?_, fun l r => ?_⟩
  · cases d with
    | lit l => cases l <;> simp [Rows.uptoBulk]
    | _ => simp [Rows.uptoBulk]
  · simp only [Rows.uptoBulk, bulk_sum]; omega
  · simp only [Rows.uptoBulk, bulk_sum]; omega
set_option maxRecDepth 100000 in
theorem contract (H : Type) (enc : TypeId × Value → H) (W : World) (base : Nat) (args : Array Value) (ds gs : List (DataW H)) (before : List MemPlace) (hk : Rows.uptoSmall H (ds ++ gs) = true)
    (hval : ∀ (j : Nat) t v, Try.f7.params[j]? = some t → args[j]? = some v → Value.okWide Try.prog W .any base t v)
    (hW : DataW.Whole enc Try.prog Try.f7.params.toList Rows.itemsDerivationIsParseSpec.vars false W args.toList ds gs before) :
    Calls Try.prog 7 args W fun e W' => ∃ v, e = .returned v ∧ Rows.itemsDerivationIsParseSpec.post enc Try.prog Try.f7 false true false false W args v W' := by
  have hk := of_decide_eq_true hk
  rw [bulk_sum] at hk
  refine law_contract_sz (P := Try.prog) (fn := Try.f7) (g := 7) (s := Rows.itemsDerivationIsParseSpec) (base := base) (B := 1048576) (L := tyL) (tb := 4) tyOk par7 res7 und4 rfl ?_ bulk hk ?_ hval hW (fun p hp => by cases hp)
  · intro ds h
    rw [szp7] at h
    match ds, h with
    | [a, b, c], _ => rfl
  · intro xs h hs
    rw [pars7] at h
    obtain ⟨x, _, rfl, ⟨_, h1⟩, y, _, rfl, ⟨_, h2⟩, z, _, rfl, ⟨m, h3⟩, rfl⟩ := h
    obtain ⟨n, rfl, k1⟩ := normal_of (arg_of ty24 h1)
    obtain ⟨l, rfl, k2, k3⟩ := lattice_of (arg_of ty28 h2)
    obtain ⟨fs, hu, _⟩ := str50
    unfold HasArg at h3
    rw [hu] at h3
    obtain ⟨ts, rfl, h3⟩ := h3
    obtain ⟨d, rfl⟩ := tr_of m ts h3
    have := sz_le d
    simp only [szL, szT] at hs
    exact t7 n l d k1 k3 k2 (by omega)

def wit : Array Value := #[.agg #[.int .i64 0, .int .i64 0, .int .i64 0, .slice none 0 0], .agg #[.int .i64 0, .slice none 0 0, .slice none 0 0], .agg #[.int .i64 0, .slice none 0 0]]
set_option maxRecDepth 100000 in
theorem lifted (os : Os) (started : os.Started) (H : Type) (enc : TypeId × Value → H) (F : Stop.Interp) :
    ReturnsInHanded {} Try.checked os 7 .any ((Rows.OpenSpec.upto Rows.itemsDerivationIsParseSpec).pre6 enc Try.prog Try.f7 Rows.itemsDerivationIsParseUptoRow.domain false) (((Rows.OpenSpec.upto Rows.itemsDerivationIsParseSpec).at F).post enc Try.prog Try.f7 false true false false) := by
  refine returnsInHanded_of_cond (C := Try.checked) (s := Rows.OpenSpec.upto Rows.itemsDerivationIsParseSpec) (k := Rows.uptoSmall) rfl own started (by kernel_rfl) Try.func7
    (OpenSpec.witness (enc := enc) (C := Try.checked) (s := Rows.OpenSpec.upto Rows.itemsDerivationIsParseSpec) (k := Rows.uptoSmall) rfl false ⟨#[], wit, []⟩ 8 (by kernel_rfl) (by kernel_rfl) (by kernel_rfl)
      (x := ([.agg [.lit (.int .i64 0), .lit (.int .i64 0), .lit (.int .i64 0), .nil], .agg [.lit (.int .i64 0), .nil, .nil], .agg [.lit (.int .i64 0), .nil]], [], [])) (by kernel_rfl) rfl (by kernel_rfl)) ?_
  intro W base args ds gs before hval hW _ hk _
  exact contract H enc W base args ds gs before hk hval hW

theorem said : Rows.ItemsDerivationIsParseUptoSaid :=
  OpenClaim.holds_of_cond 7 Try.f7 rfl rfl rfl rfl rfl rfl rfl ⟨rfl, rfl, rfl, rfl, rfl⟩ rfl rfl rfl rfl rfl (by kernel_rfl) Try.func7 (by kernel_rfl)
    (of_decide_eq_true (by kernel_rfl)) (by unfold Func.isWrapper; first | (rw [if_pos (by decide +kernel)]; kernel_rfl) | (rw [if_neg (by decide +kernel)]; exact ⟨rfl, rfl⟩))
    (fun os started H enc _ F => lifted os started H enc F)
end Go.Proofs.Ytecgedikabjcdaa.der
