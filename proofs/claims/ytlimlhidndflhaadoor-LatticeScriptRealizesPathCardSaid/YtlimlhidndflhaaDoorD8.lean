/- emendatelaw37.LatticeScriptRealizesPath answers true at every input, and leaves its arguments as they were. Conditions: the package variable emendate/editscript.actions starts as the program's text lays it (the card ties it). -/
import Derived.Test.YtlimlhidndflhaaDoorDb
import Derived.Test.YtlimlhidndflhaaDoorPa
import Derived.Test.YtlimlhidndflhaaDoorCards
import Derived.Test.YtlimlhidndflhaaDoorTie
import Derived.WalkKit
import Derived.ProofKit
import Derived.OpenShut
import Derived.Deep.DeepHandedRow
import Derived.LaidMore
import Derived.Lib.LaidTab
namespace Go.Proofs.YtlimlhidndflhaaDoor.rea
open Go.ChangeShapes Go.WideShapes Go.ChangeAt Go.RowKit Go.DM Go.Proofs
set_option linter.unusedVariables false
def tyL : List TypeId := [22, 50, 23, 3, 25, 26, 5]
theorem tyOk : plainTys Tryd.prog tyL = true := by kernel_rfl
theorem tysOk : tyOf.tysOf (tyOf Tryd.prog 9) [25, 26] = some [inputTy, (.slice (.int .u8))] := by kernel_rfl
theorem resN : Tryd.f3.resultTypes = #[4] := by kernel_rfl
theorem undB : Tryd.prog.underlying 4 = some .bool := by kernel_rfl
theorem parsN : Tryd.f3.params.toList = [25, 26] := by kernel_rfl
theorem parN : ∀ t ∈ Tryd.f3.params.toList, t ∈ tyL := by rw [parsN]; simp [tyL]
theorem szN : Tryd.f3.params.size = 2 := by kernel_rfl
theorem own : ownKnob Tryd.prog.godebug = none := by kernel_rfl
theorem gAct : Tryd.prog.globalNamed "emendate/editscript.actions" = some 0 := by kernel_rfl
theorem tAct : (Tryd.prog.globals[0]?).map (·.type) = some 92 := by kernel_rfl
theorem uArr : Tryd.prog.underlying 92 = some (.array 5 91) := by kernel_rfl
theorem uFn : Tryd.prog.underlying 91 = some (.func #[75, 3] #[4] false) := by kernel_rfl
theorem cells91 : Tryd.prog.cellsOf 91 = 1 := by kernel_rfl
theorem cells92 : Tryd.prog.cellsOf 92 = 5 := by kernel_rfl
theorem u8s_of {x : T} (h : (Ty.slice (.int .u8)).arg x) : ∃ l : List Int, x = .sl (u8T l) ∧ l.length ≤ 9223372036854775807 ∧ ∀ t ∈ l, 0 ≤ t ∧ t ≤ 255 := by
  unfold Ty.arg Ty.has at h
  obtain ⟨rows, hx, hl, hr⟩ := h
  simp only [List.cons.injEq, and_true] at hx
  subst hx
  rw [maxLen_eq] at hl
  suffices ∃ l : List Int, rows = u8T l ∧ ∀ t ∈ l, 0 ≤ t ∧ t ≤ 255 by
    obtain ⟨l, rfl, h2⟩ := this
    exact ⟨l, rfl, by simpa using hl, h2⟩
  clear hl
  induction rows with
  | nil => exact ⟨[], rfl, fun t h => by cases h⟩
  | cons r rs ih =>
    obtain ⟨l, rfl, h2⟩ := ih fun q hq => hr q (List.mem_cons_of_mem _ hq)
    have h1 := hr r (List.mem_cons_self ..)
    simp only [Ty.has] at h1
    obtain ⟨n, rfl, hw⟩ := h1
    simp only [Lit.wf, Bool.and_eq_true, decide_eq_true_eq] at hw
    have e1 : IntKind.u8.min = 0 := by decide
    have e2 : IntKind.u8.max = 255 := by decide
    rw [e1, e2] at hw
    refine ⟨n :: l, rfl, fun t ht => ?_⟩
    rcases List.mem_cons.1 ht with rfl | ht
    · exact hw
    · exact h2 t ht
abbrev theLaid : List (String × DataW Unit) := [("emendate/editscript.actions", Rows.laid_emendate_editscript_actions)]
theorem trod_nilFunc {P : Program} {w : World} {base : Nat} {sp : Nat → Bool} {fuel : Nat} {t : TypeId} {ps rs : Array TypeId} {va : Bool} {v : Value} {q : List MemPlace} {H : Type} {enc : TypeId × Value → H}
    (ht : P.underlying t = some (.func ps rs va)) (h : DataW.trod enc P w base sp true fuel t [v] = some (.nil, q)) : v = .nilFunc := by
  cases fuel with
  | zero => simp [DataW.trod] at h
  | succ n => cases v <;> simp [DataW.trod, ht] at h ⊢
theorem cs5 {cs : List Value} (h : cs.length = 5) : ∃ a b c d e, cs = [a, b, c, d, e] := by
  match cs, h with
  | [a, b, c, d, e], _ => exact ⟨a, b, c, d, e, rfl⟩
theorem xs5 {α : Type} {cs : List α} (h : cs.length = 5) : ∃ a b c d e, cs = [a, b, c, d, e] := by
  match cs, h with
  | [a, b, c, d, e], _ => exact ⟨a, b, c, d, e, rfl⟩
theorem of_laid {W : World} (h : laidMetH Tryd.prog theLaid W) : W.cell? ⟨0, 0, none⟩ = some .nilFunc ∧ W.cell? ⟨0, 1, none⟩ = some (.func (.func 80) #[] #[]) ∧
    W.cell? ⟨0, 2, none⟩ = some (.func (.func 81) #[] #[]) ∧ W.cell? ⟨0, 3, none⟩ = some (.func (.func 82) #[] #[]) ∧ W.cell? ⟨0, 4, none⟩ = some (.func (.func 83) #[] #[]) := by
  obtain ⟨g, t, cs, fuel, p, hg, ht, hv, hd⟩ := h.funcs (List.mem_singleton.2 rfl)
  obtain rfl := Option.some.inj (gAct.symm.trans hg)
  obtain rfl := Option.some.inj (tAct.symm.trans ht)
  obtain ⟨xs, m, _, ex, hlen, hl, hel⟩ := DataW.trod_array uArr hd
  rw [cells92] at hlen
  obtain ⟨v0, v1, v2, v3, v4, hcs⟩ := cs5 hlen
  obtain ⟨x0, x1, x2, x3, x4, rfl⟩ := xs5 hl
  rw [hcs, cells91] at hel
  have e0 := hel 0 (by omega)
  have e1 := hel 1 (by omega)
  have e2 := hel 2 (by omega)
  have e3 := hel 3 (by omega)
  have e4 := hel 4 (by omega)
  simp only [Nat.zero_mul, Nat.one_mul, List.drop_zero, List.take_succ_cons, List.take_zero, List.getElem?_cons_zero, List.getElem?_cons_succ, List.drop_succ_cons, Nat.reduceMul] at e0 e1 e2 e3 e4
  have ex2 : (DataW.agg [x0.1, x1.1, x2.1, x3.1, x4.1] : DataW (List UInt8)) = .agg [.nil, .held [40, 42, 101, 109, 101, 110, 100, 97, 116, 101, 47, 101, 100, 105, 116, 115, 99, 114, 105, 112, 116, 46, 115, 116, 97, 116, 101, 41, 46, 114, 101, 97, 100], .held [40, 42, 101, 109, 101, 110, 100, 97, 116, 101, 47, 101, 100, 105, 116, 115, 99, 114, 105, 112, 116, 46, 115, 116, 97, 116, 101, 41, 46, 114, 101, 109, 111, 118, 101], .held [40, 42, 101, 109, 101, 110, 100, 97, 116, 101, 47, 101, 100, 105, 116, 115, 99, 114, 105, 112, 116, 46, 115, 116, 97, 116, 101, 41, 46, 105, 110, 115, 101, 114, 116], .held [40, 42, 101, 109, 101, 110, 100, 97, 116, 101, 47, 101, 100, 105, 116, 115, 99, 114, 105, 112, 116, 46, 115, 116, 97, 116, 101, 41, 46, 115, 119, 97, 112]] := (congrArg Prod.fst ex).symm
  simp only [DataW.agg.injEq, List.cons.injEq, and_true] at ex2
  obtain ⟨k0, k1, k2, k3, k4⟩ := ex2
  obtain ⟨y0, q0⟩ := x0
  obtain ⟨y1, q1⟩ := x1
  obtain ⟨y2, q2⟩ := x2
  obtain ⟨y3, q3⟩ := x3
  obtain ⟨y4, q4⟩ := x4
  dsimp only at k0 k1 k2 k3 k4
  subst k0 k1 k2 k3 k4
  obtain rfl := trod_nilFunc uFn e0
  obtain rfl := func_of_trod (f0 := 80) uFn (by kernel_rfl) e1
  obtain rfl := func_of_trod (f0 := 81) uFn (by kernel_rfl) e2
  obtain rfl := func_of_trod (f0 := 82) uFn (by kernel_rfl) e3
  obtain rfl := func_of_trod (f0 := 83) uFn (by kernel_rfl) e4
  have hc : cs = #[.nilFunc, .func (.func 80) #[] #[], .func (.func 81) #[] #[], .func (.func 82) #[] #[], .func (.func 83) #[] #[]] := by
    apply Array.toList_inj.1
    rw [hcs]
  subst hc
  exact ⟨World.var?_cell hg hv 0, World.var?_cell hg hv 1, World.var?_cell hg hv 2, World.var?_cell hg hv 3, World.var?_cell hg hv 4⟩
theorem laidOk {W : World} (h : laidMetH Tryd.prog theLaid W) : GOk W fun _ => False := by
  obtain ⟨h0, h1, h2, h3, h4⟩ := of_laid h
  intro p hp
  obtain rfl : p = _ := List.mem_singleton.1 hp
  refine ⟨(cell_in h0).1, fun x => x, ?_⟩
  simp only [RelAt, RelT, and_true, Nat.zero_add, Nat.reduceAdd]
  refine ⟨⟨_, h0, rfl, rfl⟩, ⟨_, h1, rfl, ?_⟩, ⟨_, h2, rfl, ?_⟩, ⟨_, h3, rfl, ?_⟩, ⟨_, h4, rfl, ?_⟩⟩ <;> exact ⟨#[], rfl, by simp [RelL]⟩
set_option maxRecDepth 100000 in
theorem contract (H : Type) (enc : TypeId × Value → H) (W : World) (base : Nat) (args : Array Value) (ds gs : List (DataW H)) (before : List MemPlace)
    (hval : ∀ (j : Nat) t v, Tryd.f3.params[j]? = some t → args[j]? = some v → Value.okWide Tryd.prog W .any base t v)
    (hW : DataW.Whole enc Tryd.prog Tryd.f3.params.toList Rows.latticeScriptRealizesPathSpec.vars false W args.toList ds gs before) (hg : GOk W fun _ => False) :
    Calls Tryd.prog 3 args W fun e W' => ∃ v, e = .returned v ∧ Rows.latticeScriptRealizesPathSpec.post enc Tryd.prog Tryd.f3 false true false false W args v W' := by
  refine law_contract (P := Tryd.prog) (fn := Tryd.f3) (f := 3) (s := Rows.latticeScriptRealizesPathSpec) (base := base) (L := tyL) (tb := 4) tyOk parN resN undB rfl ?_ ?_ hval hW hg
  · intro ds h
    rw [szN] at h
    match ds, h with
    | [a, b], _ => rfl
  · intro xs h
    rw [parsN] at h
    have := args_of tysOk h
    simp only [Ty.args] at this
    obtain ⟨x, xs', rfl, h1, y, ys', rfl, h2, rfl⟩ := this
    obtain ⟨l, rfl, k2, k3⟩ := input_of h1
    obtain ⟨t, rfl, ht, hb⟩ := u8s_of h2
    exact t903 l t hb ht

/-- A world for the witness: the settled one, the listed variable holding what its initialiser lays. -/
noncomputable def laidWorld (os : Os) : World :=
  { World.holding Tryd.prog os ⟨#[], #[], []⟩ with heap := (World.holding Tryd.prog os ⟨#[], #[], []⟩).heap.modify 0 fun
      | .cells _ t frozen => .cells #[.nilFunc, .func (.func 80) #[] #[], .func (.func 81) #[] #[], .func (.func 82) #[] #[], .func (.func 83) #[] #[]] t frozen
      | o => o }
def wit : Array Value := #[.agg #[.slice none 0 0, .slice none 0 0, .int .i64 0], .slice none 0 0]
theorem laid_met (os : Os) : laidMetH Tryd.prog Rows.latticeScriptRealizesPathRow.laid ((laidWorld os).forCall (fun _ _ => 0) ⟨#[], wit, []⟩).memory :=
  laidMetH_of_parts3 (fuel := 8) (laidMet_of_run' 8 (by kernel_rfl) (by kernel_rfl)) (by kernel_rfl) (by kernel_rfl)
theorem reads (os : Os) {H : Type} (enc : TypeId × Value → H) : ∃ places, DataW.whole enc Tryd.prog ((laidWorld os).forCall (fun _ _ => 0) ⟨#[], wit, []⟩).memory Tryd.f3.params.toList Rows.latticeScriptRealizesPathSpec.vars false wit.toList 8 = some ([.agg [.nil, .nil, .lit (.int .i64 0)], .nil], [], places) :=
  ⟨[], by kernel_rfl⟩

set_option maxRecDepth 100000 in
theorem lifted (os : Os) (started : os.Started) (H : Type) (enc : TypeId × Value → H) (F : Stop.Interp) :
    ReturnsInHanded {} Tryd.checked os 3 .any ((OpenSpec.ofChange Rows.latticeScriptRealizesPathSpec).preRow enc Tryd.prog Tryd.f3 Rows.latticeScriptRealizesPathRow.domain false Rows.latticeScriptRealizesPathRow.laid) (((OpenSpec.ofChange Rows.latticeScriptRealizesPathSpec).at F).post enc Tryd.prog Tryd.f3 false true false false) := by
  obtain ⟨places, hx⟩ := reads os enc
  refine returnsInHanded_of_row (C := Tryd.checked) (s := OpenSpec.ofChange Rows.latticeScriptRealizesPathSpec) own started (by kernel_rfl) Tryd.func3
    (witness_row_at (enc := enc) (C := Tryd.checked) false (laidWorld os) wit rfl (by kernel_rfl) (by kernel_rfl) (by kernel_rfl)
      (OpenSpec.preRow_of_cond 8 hx (by kernel_rfl) (fun k hk => by cases hk) (by kernel_rfl) (laid_met os))) ?_
  intro W base args ds gs before hval hW _ _ _ hl _ _
  exact contract H enc W base args ds gs before hval hW (laidOk hl)

theorem said : Rows.LatticeScriptRealizesPathSaid :=
  OpenClaim.holds_of_cond 3 Tryd.f3 rfl rfl rfl rfl rfl rfl rfl ⟨rfl, rfl, rfl, rfl, rfl⟩ rfl rfl rfl rfl rfl (by kernel_rfl) Tryd.func3 (by kernel_rfl)
    (of_decide_eq_true (by kernel_rfl)) (by unfold Func.isWrapper; first | (rw [if_pos (by decide +kernel)]; kernel_rfl) | (rw [if_neg (by decide +kernel)]; exact ⟨rfl, rfl⟩))
    (fun os started H enc _ F => by rw [OpenClaim.pre_eq_preRow]; exact lifted os started H enc F)

theorem plain (f : FuncId) (fn : Func) (hf : Tryd.pinned.checked.prog.funcNamed "emendate/emendatelaw37.LatticeScriptRealizesPath" = some f) (hfn : Tryd.pinned.checked.prog.funcs[f]? = some fn) :
    false = Tryd.pinned.checked.prog.looks [] ∧ ∀ (j : Nat) t, fn.params[j]? = some t → Tryd.pinned.checked.prog.wantsStandIn t = false := by
  obtain rfl : f = 3 := Option.some.inj ((show Tryd.prog.funcNamed "emendate/emendatelaw37.LatticeScriptRealizesPath" = some 3 by kernel_rfl).symm.trans hf) |>.symm
  obtain rfl : fn = Tryd.f3 := (Option.some.inj (Tryd.func3.symm.trans hfn)).symm
  refine ⟨by kernel_rfl, fun j t ht => ?_⟩
  have hm : t ∈ [25, 26] := by rw [← parsN]; exact Array.mem_def.1 (Array.mem_of_getElem? ht)
  have hm : t = 25 ∨ t = 26 := by simpa using hm
  rcases hm with rfl | rfl
  · exact (show Tryd.prog.wantsStandIn 25 = false by kernel_rfl)
  · exact (show Tryd.prog.wantsStandIn 26 = false by kernel_rfl)

theorem card : Rows.LatticeScriptRealizesPathCardSaid :=
  Claim7.holds_tied_plain_at .later [] _ _ _ _ said (fun _ h => by cases h) (by kernel_rfl) (fun _ h => by cases h) latticeScriptRealizesPath_row_tie rfl ⟨rfl, rfl⟩ (by kernel_rfl) rfl plain (by kernel_rfl)
end Go.Proofs.YtlimlhidndflhaaDoor.rea
