/- emendatelaw45.CertcheckAcceptedIsOptimal answers true at every input of up to 1048576 values, and leaves its arguments as they were. Conditions: the package variable emendate/editscript.actions starts as the program's text lays it (the card ties it). -/
import Derived.Test.YtfbeehmfabkomaaDoorXae
import Derived.Test.YtfbeehmfabkomaaDoorCards
import Derived.Test.YtfbeehmfabkomaaDoorTie
import Derived.WalkKit
import Derived.ProofKit
import Derived.OpenShut
import Derived.Deep.DeepHandedRow
import Derived.LaidMore
import Derived.Lib.LaidTab
namespace Go.Proofs.YtfbeehmfabkomaaDoor.acceptedIsOptimal
open Go.ChangeShapes Go.WideShapes Go.ChangeAt Go.RowKit Go.DM Go.Proofs Go.Proofs.It
set_option linter.all false
def CK : List TypeId := [35, 24, 28, 3, 29, 32, 33, 22, 84, 25, 92, 26, 63, 61, 30, 68]
theorem ajs : j2 Tryd.prog CK = true := by kernel_rfl
theorem ajt : Tryd.f5.resultTypes = #[4] := by kernel_rfl
theorem aju : Tryd.prog.underlying 4 = some .bool := by kernel_rfl
theorem Tt : Tryd.f5.params.toList = [35] := by kernel_rfl
theorem ajv : ∀ t ∈ Tryd.f5.params.toList, t ∈ CK := by rw [Tt]; simp [CK]
theorem szN : Tryd.f5.params.size = 1 := by kernel_rfl
theorem own : ownKnob Tryd.prog.godebug = none := by kernel_rfl
theorem ajw : Tryd.prog.globalNamed "emendate/editscript.actions" = some 0 := by kernel_rfl
theorem ajx : (Tryd.prog.globals[0]?).map (·.type) = some 168 := by kernel_rfl
theorem ajy : Tryd.prog.underlying 168 = some (.array 5 167) := by kernel_rfl
theorem R7 : Tryd.prog.underlying 167 = some (.func #[147, 3] #[4] false) := by kernel_rfl
theorem Tu : Tryd.prog.cellsOf 167 = 1 := by kernel_rfl
theorem Tv : Tryd.prog.cellsOf 168 = 5 := by kernel_rfl
abbrev KM : List (String × DataW Unit) := [("emendate/editscript.actions", Rows.laid_emendate_editscript_actions)]
theorem BU {P : Program} {w : World} {base : Nat} {sp : Nat → Bool} {fuel : Nat} {t : TypeId} {ps rs : Array TypeId} {va : Bool} {v : Value} {q : List MemPlace} {H : Type} {enc : TypeId × Value → H}
    (ht : P.underlying t = some (.func ps rs va)) (h : DataW.trod enc P w base sp true fuel t [v] = some (.nil, q)) : v = .nilFunc := by
  cases fuel with
  | zero => simp [DataW.trod] at h
  | succ n => cases v <;> simp [DataW.trod, ht] at h ⊢
theorem cs5 {cs : List Value} (h : cs.length = 5) : ∃ a b c d e, cs = [a, b, c, d, e] := by
  match cs, h with
  | [a, b, c, d, e], _ => exact ⟨a, b, c, d, e, rfl⟩
theorem xs5 {α : Type} {cs : List α} (h : cs.length = 5) : ∃ a b c d e, cs = [a, b, c, d, e] := by
  match cs, h with
  | [a, b, c, d, e], _ => exact ⟨a, b, c, d, e, rfl⟩
theorem VU {W : World} (h : laidMetH Tryd.prog KM W) : W.cell? ⟨0, 0, none⟩ = some .nilFunc ∧ W.cell? ⟨0, 1, none⟩ = some (.func (.func 138) #[] #[]) ∧
    W.cell? ⟨0, 2, none⟩ = some (.func (.func 139) #[] #[]) ∧ W.cell? ⟨0, 3, none⟩ = some (.func (.func 140) #[] #[]) ∧ W.cell? ⟨0, 4, none⟩ = some (.func (.func 141) #[] #[]) := by
  obtain ⟨g, t, cs, fuel, p, hg, ht, hv, hd⟩ := h.funcs (List.mem_singleton.2 rfl)
  obtain rfl := Option.some.inj (ajw.symm.trans hg)
  obtain rfl := Option.some.inj (ajx.symm.trans ht)
  obtain ⟨xs, m, _, ex, dI, hl, OB⟩ := DataW.trod_array ajy hd
  rw [Tv] at dI
  obtain ⟨v0, v1, v2, v3, v4, pR⟩ := cs5 dI
  obtain ⟨x0, x1, x2, x3, x4, rfl⟩ := xs5 hl
  rw [pR, Tu] at OB
  have e0 := OB 0 (by omega)
  have e1 := OB 1 (by omega)
  have e2 := OB 2 (by omega)
  have e3 := OB 3 (by omega)
  have e4 := OB 4 (by omega)
  simp only [Nat.zero_mul, Nat.one_mul, List.drop_zero, List.take_succ_cons, List.take_zero, List.getElem?_cons_zero, List.getElem?_cons_succ, List.drop_succ_cons, Nat.reduceMul] at e0 e1 e2 e3 e4
  have ex2 : (DataW.agg [x0.1, x1.1, x2.1, x3.1, x4.1] : DataW (List UInt8)) = .agg [.nil, .held [40, 42, 101, 109, 101, 110, 100, 97, 116, 101, 47, 101, 100, 105, 116, 115, 99, 114, 105, 112, 116, 46, 115, 116, 97, 116, 101, 41, 46, 114, 101, 97, 100], .held [40, 42, 101, 109, 101, 110, 100, 97, 116, 101, 47, 101, 100, 105, 116, 115, 99, 114, 105, 112, 116, 46, 115, 116, 97, 116, 101, 41, 46, 114, 101, 109, 111, 118, 101], .held [40, 42, 101, 109, 101, 110, 100, 97, 116, 101, 47, 101, 100, 105, 116, 115, 99, 114, 105, 112, 116, 46, 115, 116, 97, 116, 101, 41, 46, 105, 110, 115, 101, 114, 116], .held [40, 42, 101, 109, 101, 110, 100, 97, 116, 101, 47, 101, 100, 105, 116, 115, 99, 114, 105, 112, 116, 46, 115, 116, 97, 116, 101, 41, 46, 115, 119, 97, 112]] := (congrArg Prod.fst ex).symm
  simp only [DataW.agg.injEq, List.cons.injEq, and_true] at ex2
  obtain ⟨k0, k1, k2, k3, k4⟩ := ex2
  obtain ⟨y0, q0⟩ := x0
  obtain ⟨y1, q1⟩ := x1
  obtain ⟨y2, q2⟩ := x2
  obtain ⟨y3, q3⟩ := x3
  obtain ⟨y4, q4⟩ := x4
  dsimp only at k0 k1 k2 k3 k4
  subst k0 k1 k2 k3 k4
  obtain rfl := BU R7 e0
  obtain rfl := func_of_trod (f0 := 138) R7 (by kernel_rfl) e1
  obtain rfl := func_of_trod (f0 := 139) R7 (by kernel_rfl) e2
  obtain rfl := func_of_trod (f0 := 140) R7 (by kernel_rfl) e3
  obtain rfl := func_of_trod (f0 := 141) R7 (by kernel_rfl) e4
  have hc : cs = #[.nilFunc, .func (.func 138) #[] #[], .func (.func 139) #[] #[], .func (.func 140) #[] #[], .func (.func 141) #[] #[]] := by
    apply Array.toList_inj.1
    rw [pR]
  subst hc
  exact ⟨World.var?_cell hg hv 0, World.var?_cell hg hv 1, World.var?_cell hg hv 2, World.var?_cell hg hv 3, World.var?_cell hg hv 4⟩
theorem adi {W : World} (h : laidMetH Tryd.prog KM W) : vT W fun _ => False := by
  obtain ⟨h0, h1, h2, h3, h4⟩ := VU h
  intro p hp
  obtain rfl : p = _ := List.mem_singleton.1 hp
  refine ⟨(H5 h0).1, fun x => x, ?_⟩
  simp only [cS, aO, and_true, Nat.zero_add, Nat.reduceAdd]
  refine ⟨⟨_, h0, rfl, rfl⟩, ⟨_, h1, rfl, ?_⟩, ⟨_, h2, rfl, ?_⟩, ⟨_, h3, rfl, ?_⟩, ⟨_, h4, rfl, ?_⟩⟩ <;> exact ⟨#[], rfl, by simp [aN]⟩
mutual
theorem akz : ∀ d : Tr, d.sz ≤ Hr d.enc
  | .mk n ks => by
    have := ajl ks
    simp only [Tr.enc, Tr.sz, Hr, szT]; omega
theorem ajl : ∀ ks : List Tr, anR ks ≤ szR (anW ks)
  | [] => by simp [anR]
  | k :: ks => by
    have := akz k
    have := ajl ks
    simp only [anW, anR, szR]; omega
end
theorem akJ (c : sv) : c.d.sz ≤ Hr c.cells := by
  have := akz c.d
  unfold sv.cells
  rw [aod, aod]
  omega
theorem aam {H : Type} : ∀ l : List (DataW H), Rows.uptoBulkAll l = (l.map Rows.uptoBulk).sum
  | [] => rfl
  | x :: l => by simp only [Rows.uptoBulkAll, List.map_cons, List.sum_cons, aam l]
theorem alh {H : Type} : ai1 (Rows.uptoBulk (H := H)) := by
  refine ⟨fun d => ?_, fun l => ?_, fun l r => ?_⟩
  · cases d with
    | lit l => cases l <;> simp [Rows.uptoBulk]
    | _ => simp [Rows.uptoBulk]
  · simp only [Rows.uptoBulk, aam]; omega
  · simp only [Rows.uptoBulk, aam]; omega
set_option maxRecDepth 100000 in
theorem Tw (H : Type) (enc : TypeId × Value → H) (W : World) (base : Nat) (args : Array Value) (ds gs : List (DataW H)) (bF : List MemPlace) (hk : Rows.uptoSmall H (ds ++ gs) = true)
    (dt : ∀ (j : Nat) t v, Tryd.f5.params[j]? = some t → args[j]? = some v → Value.okWide Tryd.prog W .any base t v)
    (hW : DataW.Whole enc Tryd.prog Tryd.f5.params.toList Rows.certcheckAcceptedIsOptimalSpec.vars false W args.toList ds gs bF) (hg : vT W fun _ => False) :
    Calls Tryd.prog 5 args W fun e W' => ∃ v, e = .returned v ∧ Rows.certcheckAcceptedIsOptimalSpec.post enc Tryd.prog Tryd.f5 false true false false W args v W' := by
  have hk := of_decide_eq_true hk
  rw [aam] at hk
  refine aar (P := Tryd.prog) (fn := Tryd.f5) (g := 5) (s := Rows.certcheckAcceptedIsOptimalSpec) (base := base) (B := 1048576) (L := CK) (tb := 4) ajs ajv ajt aju rfl ?_ alh hk ?_ dt hW hg
  · intro ds h
    rw [szN] at h
    match ds, h with
    | [a], _ => rfl
  · intro xs h hs
    rw [Tt] at h
    obtain ⟨x, _, rfl, ⟨_, h1⟩, rfl⟩ := h
    obtain ⟨c, rfl, k⟩ := ajT h1
    have := akJ c
    simp only [sv.enc, Hr, szT] at hs
    exact aiX c k (by omega)

noncomputable def tW (os : Os) : World :=
  { World.holding Tryd.prog os ⟨#[], #[], []⟩ with heap := (World.holding Tryd.prog os ⟨#[], #[], []⟩).heap.modify 0 fun
      | .cells _ t frozen => .cells #[.nilFunc, .func (.func 138) #[] #[], .func (.func 139) #[] #[], .func (.func 140) #[] #[], .func (.func 141) #[] #[]] t frozen
      | o => o }
def DS : Array Value := #[.agg #[.int .i64 0, .int .i64 0, .int .i64 0, .slice none 0 0, .slice none 0 0, .slice none 0 0, .int .i64 0, .int .i64 0, .slice none 0 0, .int .i64 0, .slice none 0 0, .slice none 0 0]]
theorem Tx (os : Os) : laidMetH Tryd.prog Rows.certcheckAcceptedIsOptimalUptoRow.laid ((tW os).forCall (fun _ _ => 0) ⟨#[], DS, []⟩).memory :=
  laidMetH_of_parts3 (fuel := 8) (laidMet_of_run' 8 (by kernel_rfl) (by kernel_rfl)) (by kernel_rfl) (by kernel_rfl)
theorem agZ (os : Os) {H : Type} (enc : TypeId × Value → H) : ∃ we, DataW.whole enc Tryd.prog ((tW os).forCall (fun _ _ => 0) ⟨#[], DS, []⟩).memory Tryd.f5.params.toList Rows.certcheckAcceptedIsOptimalSpec.vars false DS.toList 8 = some ([.agg [.agg [.lit (.int .i64 0), .lit (.int .i64 0), .lit (.int .i64 0), .nil], .agg [.nil, .nil, .lit (.int .i64 0)], .lit (.int .i64 0), .nil, .agg [.lit (.int .i64 0), .nil], .nil]], [], we) :=
  ⟨[], by kernel_rfl⟩

set_option maxRecDepth 100000 in
theorem lifted (os : Os) (BV : os.Started) (H : Type) (enc : TypeId × Value → H) (F : Stop.Interp) :
    ReturnsInHanded {} Tryd.checked os 5 .any ((Rows.OpenSpec.upto Rows.certcheckAcceptedIsOptimalSpec).preRow enc Tryd.prog Tryd.f5 Rows.certcheckAcceptedIsOptimalUptoRow.domain false Rows.certcheckAcceptedIsOptimalUptoRow.laid) (((Rows.OpenSpec.upto Rows.certcheckAcceptedIsOptimalSpec).at F).post enc Tryd.prog Tryd.f5 false true false false) := by
  obtain ⟨we, hx⟩ := agZ os enc
  refine returnsInHanded_of_row (C := Tryd.checked) (s := (Rows.OpenSpec.upto Rows.certcheckAcceptedIsOptimalSpec)) own BV (by kernel_rfl) Tryd.func5
    (witness_row_at (enc := enc) (C := Tryd.checked) false (tW os) DS rfl (by kernel_rfl) (by kernel_rfl) (by kernel_rfl)
      (OpenSpec.preRow_of_cond 8 hx (by kernel_rfl) (fun k hk => by cases hk; rfl) (by kernel_rfl) (Tx os))) ?_
  intro W base args ds gs bF dt hW _ hk _ hl _ _
  exact Tw H enc W base args ds gs bF (hk _ rfl) dt hW (adi hl)

theorem said : Rows.CertcheckAcceptedIsOptimalUptoSaid :=
  OpenClaim.holds_of_cond 5 Tryd.f5 rfl rfl rfl rfl rfl rfl rfl ⟨rfl, rfl, rfl, rfl, rfl⟩ rfl rfl rfl rfl rfl (by kernel_rfl) Tryd.func5 (by kernel_rfl)
    (of_decide_eq_true (by kernel_rfl)) (by unfold Func.isWrapper; first | (rw [if_pos (by decide +kernel)]; kernel_rfl) | (rw [if_neg (by decide +kernel)]; exact ⟨rfl, rfl⟩))
    (fun os BV H enc _ F => by rw [OpenClaim.pre_eq_preRow]; exact lifted os BV H enc F)

theorem plain (f : FuncId) (fn : Func) (hf : Tryd.pinned.checked.prog.funcNamed "emendate/emendatelaw45.CertcheckAcceptedIsOptimal" = some f) (sK : Tryd.pinned.checked.prog.funcs[f]? = some fn) :
    false = Tryd.pinned.checked.prog.looks [] ∧ ∀ (j : Nat) t, fn.params[j]? = some t → Tryd.pinned.checked.prog.wantsStandIn t = false := by
  obtain rfl : f = 5 := Option.some.inj ((show Tryd.prog.funcNamed "emendate/emendatelaw45.CertcheckAcceptedIsOptimal" = some 5 by kernel_rfl).symm.trans hf) |>.symm
  obtain rfl : fn = Tryd.f5 := (Option.some.inj (Tryd.func5.symm.trans sK)).symm
  refine ⟨by kernel_rfl, fun j t ht => ?_⟩
  have hm : t ∈ ([35] : List TypeId) := by rw [← Tt]; exact Array.mem_def.1 (Array.mem_of_getElem? ht)
  obtain rfl : t = 35 := by simpa using hm
  exact (show Tryd.prog.wantsStandIn 35 = false by kernel_rfl)

theorem card : Rows.CertcheckAcceptedIsOptimalUptoCardSaid :=
  Claim7.holds_tied_plain_at .later [] _ _ _ _ said (fun _ h => by cases h) (by kernel_rfl) (fun _ h => by cases h) certcheckAcceptedIsOptimalUpto_row_tie rfl ⟨rfl, rfl⟩ (by kernel_rfl) rfl plain (by kernel_rfl)
end Go.Proofs.YtfbeehmfabkomaaDoor.acceptedIsOptimal
