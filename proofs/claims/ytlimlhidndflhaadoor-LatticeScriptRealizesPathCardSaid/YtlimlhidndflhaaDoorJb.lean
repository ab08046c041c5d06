/- The builder of lattices: from. Conditions: none. -/
import Derived.Test.YtlimlhidndflhaaDoorJa
import Derived.Test.YtlimlhidndflhaaDoorMe
namespace Go.Proofs
open Go.DM
set_option linter.unusedSimpArgs false
set_option linter.unusedVariables false

/-! what the functions of the builder do, as functions -/
def decB (objs : Obs) (b : Nat) : Input × Nat :=
  match objs b with
  | some (.box [.v (.sl c), .v (.sl i), .v (.int .i64 s), .mref m]) => (⟨decCols c, decInts i, s⟩, m)
  | _ => (⟨[], [], 0⟩, 0)
theorem decB_eq {objs : Obs} {b m : Nat} {x : Input} (h : objs b = some (.box (bcells x m))) : decB objs b = (x, m) := by
  simp [decB, h, bcells]
def decMap (objs : Obs) (m : Nat) : List Arc :=
  match objs m with
  | some (.map _ _ _ es) => es.map fun e => match e.2.2 with | .v (.agg r) => decArc r | _ => default
  | _ => []
theorem decMap_eq {objs : Obs} {m : Nat} {al : List Arc} (h : objs m = some (mapOb al)) : decMap objs m = al := by
  simp only [decMap, h, mapOb, entries, List.map_map]
  rw [show (List.map ((fun e => match e.2.2 with | DV.v (T.agg r) => decArc r | _ => default) ∘ fun p => (p.2, p.1.key, DV.v (T.agg p.1.enc))) al.zipIdx) = al.zipIdx.map Prod.fst from List.map_congr_left fun p _ => by simp]
  simp

def k31 : List DV → Obs → SRes
  | [.ptr b 0, .v (.int .i64 i), .v (.int .i64 j)], objs => ⟨objs b = some (.box (bcells (decB objs b).1 (decB objs b).2)) ∧ 0 ≤ i ∧ i ≤ j ∧ j ≤ (decB objs b).1.columns.length ∧ delOk (decB objs b).1.columns,
      .v (.tup [ti (delCost (((decB objs b).1.columns.take j.toNat).drop i.toNat) 0), .sl (opsT (dels (j.toNat - i.toNat)))]), objs⟩
  | _, objs => ⟨False, .undef, objs⟩
theorem k31_eq {objs : Obs} {b m : Nat} {x : Input} {i j : Nat} (h : objs b = some (.box (bcells x m))) :
    k31 [.ptr b 0, .v (ti i), .v (ti j)] objs = ⟨i ≤ j ∧ j ≤ x.columns.length ∧ delOk x.columns, .v (.tup [ti (delCost ((x.columns.take j).drop i) 0), .sl (opsT (dels (j - i)))]), objs⟩ := by
  simp only [k31, decB_eq h, h, Int.toNat_natCast, SRes.mk.injEq, and_self, and_true, true_and, eq_iff_iff, Int.ofNat_le, Int.ofNat_lt, Int.natCast_nonneg]
  try omega
def k50 : List DV → Obs → SRes
  | [.ptr b 0, .v (.int .i64 i)], objs => ⟨objs b = some (.box (bcells (decB objs b).1 (decB objs b).2)) ∧ 0 ≤ i ∧ i ≤ 1000000 ∧ (decB objs b).1.columns.length ≤ 1000000, .v (.bool (swapOk (decB objs b).1 i.toNat)), objs⟩
  | _, objs => ⟨False, .undef, objs⟩
theorem k50_eq {objs : Obs} {b m : Nat} {x : Input} {i : Nat} (h : objs b = some (.box (bcells x m))) :
    k50 [.ptr b 0, .v (ti i)] objs = ⟨i ≤ 1000000 ∧ x.columns.length ≤ 1000000, .v (.bool (swapOk x i)), objs⟩ := by
  simp only [k50, decB_eq h, h, Int.toNat_natCast, SRes.mk.injEq, and_self, and_true, true_and, eq_iff_iff, Int.ofNat_le, Int.ofNat_lt, Int.natCast_nonneg]
  try omega
def k47 : List DV → Obs → SRes
  | [.ptr b 0, .v (.int .i64 i), .v (.int .i64 j), .v (.int .i64 cost), .v (.sl ops)], objs =>
    ⟨objs b = some (.box (bcells (decB objs b).1 (decB objs b).2)) ∧ objs (decB objs b).2 = some (mapOb (decMap objs (decB objs b).2)) ∧ ops = opsT (decOps ops) ∧ 0 ≤ i ∧ i ≤ 1000000 ∧ 0 ≤ j ∧ j < (decB objs b).1.columns.length ∧ (decB objs b).1.columns.length ≤ 1000000 ∧ colOk ((decB objs b).1.columns.getD j.toNat default) ∧ 0 ≤ cost ∧ cost ≤ 1099511627776 ∧ (decOps ops).length ≤ 1000000, .v (.tup []),
      setO objs (decB objs b).2 (mapOb (addAll (decMap objs (decB objs b).2) (readN ((decB objs b).1.columns.getD j.toNat default).read i.toNat j.toNat cost (decOps ops) ((decB objs b).1.columns.getD j.toNat default).read.length)))⟩
  | _, objs => ⟨False, .undef, objs⟩
theorem k47_eq {objs : Obs} {b m : Nat} {x : Input} {al : List Arc} {i j : Nat} {cost : Int} {ops : List (Int × Int)} (h : objs b = some (.box (bcells x m))) (hm : objs m = some (mapOb al)) :
    k47 [.ptr b 0, .v (ti i), .v (ti j), .v (ti cost), .v (.sl (opsT ops))] objs = ⟨i ≤ 1000000 ∧ j < x.columns.length ∧ x.columns.length ≤ 1000000 ∧ colOk (x.columns.getD j default) ∧ 0 ≤ cost ∧ cost ≤ 1099511627776 ∧ ops.length ≤ 1000000, .v (.tup []),
      setO objs m (mapOb (addAll al (readN (x.columns.getD j default).read i j cost ops (x.columns.getD j default).read.length)))⟩ := by
  simp only [k47, decB_eq h, h, decMap_eq hm, hm, Int.toNat_natCast, decOps_enc, SRes.mk.injEq, and_self, and_true, true_and, eq_iff_iff, Int.ofNat_le, Int.ofNat_lt, Int.natCast_nonneg, show ((i : Int) ≤ 1000000) = (i ≤ 1000000) from propext ⟨fun h => by omega, fun h => by omega⟩]

abbrev Γ5 : Env := envOf [(35, specS k48), (34, specS k47), (23, specS k31), (37, specS k50), (36, specF pre49 fn49 53 2)]
theorem ok5 : EnvOk Tryd.prog Γ5 := by
  refine EnvOk.consS (EnvOk.consS (EnvOk.consS (EnvOk.consS (EnvOk.consF EnvOk.nil ?_) ?_) ?_) ?_) ?_
  · rintro ts ⟨l, rfl, h⟩
    exact t49 l h
  · intro args objs h
    unfold k50 at h ⊢
    split at h
    · rename_i objs' b i
      obtain ⟨hb, h1, h2, h3⟩ := h
      obtain ⟨i, rfl⟩ := Int.eq_ofNat_of_zero_le h1
      refine ⟨fun N hN => ?_, fun r hr => hr⟩
      exact CallsS.of (t50 hN hb (by omega) h3) (by simp) (by simp)
    · exact h.elim
  · intro args objs h
    unfold k31 at h ⊢
    split at h
    · rename_i objs' b i j
      obtain ⟨hb, h1, h2, h3, h4⟩ := h
      obtain ⟨i, rfl⟩ := Int.eq_ofNat_of_zero_le h1
      obtain ⟨j, rfl⟩ := Int.eq_ofNat_of_zero_le (show 0 ≤ j by omega)
      refine ⟨fun N hN => ?_, fun r hr => hr⟩
      exact CallsS.of (t31 hN hb (by omega) (by omega) h4) (by simp) (by simp)
    · exact h.elim
  · intro args objs h
    unfold k47 at h ⊢
    split at h
    · rename_i objs' b i j cost ops
      obtain ⟨hb, hm, ho, h1, h2, h3, h4, h5, h6, h7, h8, h9⟩ := h
      obtain ⟨i, rfl⟩ := Int.eq_ofNat_of_zero_le h1
      obtain ⟨j, rfl⟩ := Int.eq_ofNat_of_zero_le h3
      refine ⟨fun N hN => ?_, fun r hr => setO_none hm hr⟩
      rw [ho]
      exact CallsS.of (t47 hN hb hm (by omega) (by omega) h5 h6 ⟨h7, h8⟩ h9) (by simp) (by simp)
    · exact h.elim
  · intro args objs h
    exact (ok4 35 (specS k48) rfl).st k48 rfl args objs h
end Go.Proofs
/- The builder of lattices: from. Conditions: none. -/
namespace Go.Proofs
open Go.DM
set_option linter.unusedSimpArgs false
set_option linter.unusedVariables false

def delC (x : Input) (i m : Nat) : Int := delCost ((x.columns.take m).drop i) 0
def insN (ins : List Int) (i m cost : Int) (ops : List (Int × Int)) (n : Nat) : List Arc :=
  (List.range n).map fun (t : Nat) => ⟨2 * i, 2 * m, (t : Int), cost + ins.getD t 0, ops ++ [(3, (t : Int))]⟩
theorem insN_succ (ins : List Int) (i m cost : Int) (ops : List (Int × Int)) (n : Nat) : insN ins i m cost ops (n + 1) = insN ins i m cost ops n ++ [⟨2 * i, 2 * m, n, cost + ins.getD n 0, ops ++ [(3, (n : Int))]⟩] := by
  simp [insN, List.range_succ]
def readC (x : Input) (i m : Nat) : List Arc := readN (x.columns.getD m default).read i m (delC x i m) (dels (m - i)) (x.columns.getD m default).read.length
/-- The candidates from a state to a token boundary. -/
def cands (x : Input) (i m : Nat) : List Arc :=
  (if i < m then readC x i (m - 1) else []) ++ (insN x.insert i m (delC x i m) (dels (m - i)) x.insert.length ++
    (if swapOk x m then [⟨2 * i, 2 * m + 1, (x.columns.getD (m + 1) default).kind, delC x i m + x.swap, dels (m - i) ++ [(4, 0)]⟩] else []))
def fromN (x : Input) (i m : Nat) : List Arc := (List.range (m - i)).flatMap fun e => cands x i (i + e)
def fromL (x : Input) (i : Nat) : List Arc := fromN x i (x.columns.length + 1) ++ (if swapOk x i then [⟨2 * i + 1, 2 * i + 4, (x.columns.getD i default).kind, 0, []⟩] else [])
theorem fromN_succ (x : Input) {i m : Nat} (h : i ≤ m) : fromN x i (m + 1) = fromN x i m ++ cands x i m := by
  unfold fromN
  rw [show m + 1 - i = (m - i) + 1 by omega, List.range_succ, List.flatMap_append]
  simp [show i + (m - i) = m by omega]
/-- Is the input one whose prices fit? -/
def inOk (x : Input) : Prop := delOk x.columns ∧ (∀ c ∈ x.columns, colOk c) ∧ x.insert.length ≤ 1000000 ∧ (∀ p ∈ x.insert, 0 ≤ p ∧ p ≤ 1099511627776) ∧ 0 ≤ x.swap ∧ x.swap ≤ 1099511627776

theorem delC_bound {x : Input} (h : delOk x.columns) (i m : Nat) : 0 ≤ delC x i m ∧ delC x i m ≤ 1099511627776 :=
  delCost_bound (fun c hc => (h.2 c (List.mem_of_mem_take (List.mem_of_mem_drop hc))).1) 0 (by omega)

/-- The map stays where it was, and what the frame laid besides is forgotten. -/
theorem le_map {f0 : Obs} {N m nxt nxt' : Nat} {tm : Nat → DV} {l : List (Nat × DV)} {L : List (Nat × Ob)} {al : List Arc} (hcl : Closed f0 N) (hm : m < N) (hn : N ≤ nxt') (hL : ∀ p ∈ L, p.1 = m ∨ N ≤ p.1) (ho : over L f0 m = some (mapOb al))
    (htm : corTms (over L f0) (over [(m, mapOb al)] f0) id tm l) :
    Le ⟨tm, over L f0, nxt, N, []⟩ ⟨DM.look l, over [(m, mapOb al)] f0, nxt', N, []⟩ := by
  refine Le.keepO hcl hn ?_ ?_ ?_ htm
  · simp; omega
  · induction L with
    | nil => trivial
    | cons p L ih =>
      have : ∀ (L : List (Nat × Ob)), (∀ p ∈ L, p.1 = m ∨ N ≤ p.1) → overKeep N [(m, mapOb al)] L := by
        intro L
        induction L with
        | nil => intro _; trivial
        | cons q L ih =>
          intro h
          refine ⟨fun hq => ?_, ih fun p hp => h p (by simp [hp])⟩
          rcases h q (by simp) with h | h
          · exact ⟨mapOb al, by simp [h]⟩
          · omega
      exact this _ hL
  · exact ⟨⟨mapOb al, ho, map_self al, fun _ => sameVer_refl _⟩, trivial⟩

set_option maxHeartbeats 4000000 in
theorem t30 {f0 : Obs} {b m : Nat} {x : Input} {al : List Arc} {i : Nat} {N : Nat} (hN : ∀ r, N ≤ r → f0 r = none) (hb : f0 b = some (.box (bcells x m))) (hm : f0 m = some (mapOb al))
    (hi : i ≤ x.columns.length) (hx : inOk x) :
    CallsS Tryd.prog 22 [.ptr b 0, .v (ti i)] f0 ⟨True, .v (.tup []), setO f0 m (mapOb (addAll al (fromL x i)))⟩ := by
  have hΓ := ok5
  refine c30.okC hN (by simp) fun hcl => ?_
  have hbN : b < N := (hcl b _ hb).1
  have hmN : m < N := (hcl m _ hm).1
  have hbm : b ≠ m := fun e => by rw [e, hm] at hb; cases hb
  have nb : ∀ k, b ≠ N + k := fun k => by omega
  have nm : ∀ k, m ≠ N + k := fun k => by omega
  obtain ⟨hd, hcs, hins, hinp, hsw0, hsw⟩ := hx
  have hl := hd.1
  simp
  refine SatD.regSeq hΓ follows [0, 1, 4] ?_
  simp [d30r0, hb, bcells]
  refine SatD.seq ?_
  refine SatD.regSeq hΓ follows [0, 1, 4, 5] ?_
  simp [d30r1]
  refine SatD.to ⟨DM.look [(0, .ptr b 0), (1, .v (ti i))], over [(m, mapOb (addAll al (fromN x i (x.columns.length + 1))))] f0, N + 1000, N, []⟩ ?_ ?_
  · refine SatD.block ?_
    refine SatD.loop (fun y : Nat => ⟨DM.look [(0, .ptr b 0), (1, .v (ti i)), (4, .v (ti x.columns.length)), (5, .v (ti y))], over [(m, mapOb (addAll al (fromN x i y)))] f0, N + 1000, N, []⟩)
      (fun y => i ≤ y ∧ y ≤ x.columns.length + 1) (fun y => x.columns.length + 1 - y) i (Le.keepO hcl ?_ ?_ ?_ ?_ ?_) (by omega) (fun y hy => ?_)
    · omega
    · simp; omega
    · simp [overKeep]
    · exact ⟨⟨mapOb al, by simp [hm], by simpa [fromN, addAll] using map_self al, fun _ => trivial⟩, trivial⟩
    · simp [hb, hbm]
    obtain ⟨hy1, hy2⟩ := hy
    refine SatD.seq ?_
    refine SatD.regSeq hΓ follows [0, 1, 4, 5, 21] ?_
    simp [d30r2]
    refine SatD.cond rfl (fun hcc => ?_) (fun hcc => ?_)
    · simp at hcc
      refine SatD.skip ?_
      simp
      obtain ⟨cost, hcost⟩ : ∃ c, delC x i y = c := ⟨_, rfl⟩
      have hcb : 0 ≤ cost ∧ cost ≤ 1099511627776 := by rw [← hcost]; exact delC_bound hd i y
      have hcost' : delCost ((x.columns.take y).drop i) 0 = cost := hcost
      obtain ⟨aly, haly⟩ : ∃ l, addAll al (fromN x i y) = l := ⟨_, rfl⟩
      rw [haly]
      refine SatD.seq ?_
      refine SatD.to ⟨DM.look [(0, .ptr b 0), (1, .v (ti i)), (4, .v (ti x.columns.length)), (5, .v (ti y))], over [(m, mapOb (addAll aly (cands x i y)))] f0, N + 1000, N, []⟩ ?_ ?_
      · refine SatD.block ?_
        refine SatD.seq ?_
        refine SatD.regA hΓ follows (rs := d30r3S) (.inr ⟨_, rfl⟩) (by kernel_rfl) [0, 1, 4, 5, 6, 7] ?_
        simp [d30r3S, k31_eq (x := x) (m := m), hb, hbm, hy1, hcc, hd, hcost']
        refine SatD.seq ?_
        obtain ⟨al1, hal1⟩ : ∃ l, addAll aly (if i < y then readC x i (y - 1) else []) = l := ⟨_, rfl⟩
        refine SatD.to ⟨DM.look [(0, .ptr b 0), (1, .v (ti i)), (4, .v (ti x.columns.length)), (5, .v (ti y)), (6, .v (ti cost)), (7, .v (.sl (opsT (dels (y - i)))))], over [(m, mapOb al1)] f0, N + 1000, N, []⟩ ?_ ?_
        · refine SatD.regSeq hΓ follows [0, 1, 4, 5, 6, 7, 33] ?_
          simp [d30r4]
          refine SatD.cond rfl (fun h => ?_) (fun h => ?_)
          · simp at h
            obtain ⟨q, hq⟩ : ∃ q, y = q + 1 := ⟨y - 1, by omega⟩
            have hwq : IntKind.i64.wrap ((y : Int) - 1) = (q : Int) := by rw [wrap_id (by omega)]; omega
            have hiq : i ≤ q := by omega
            have hql : q ≤ x.columns.length := by omega
            have hql2 : q < x.columns.length := by omega
            obtain ⟨c2, hc2⟩ : ∃ c, delC x i q = c := ⟨_, rfl⟩
            have hc2b : 0 ≤ c2 ∧ c2 ≤ 1099511627776 := by rw [← hc2]; exact delC_bound hd i q
            have hc2' : delCost ((x.columns.take q).drop i) 0 = c2 := hc2
            refine SatD.seq (SatD.regA hΓ follows (rs := d30r5S) (.inr ⟨_, rfl⟩) (by kernel_rfl) [0, 1, 4, 5, 6, 7, 8, 9] ?_)
            simp [d30r5S, k31_eq (x := x) (m := m), hb, hbm, hwq, hiq, hql, hd, hc2']
            refine SatD.regA hΓ follows (rs := d30r6S) (.inr ⟨_, rfl⟩) (by kernel_rfl) [0, 1, 4, 5, 6, 7] ?_
            simp [d30r6S, k47_eq (x := x) (m := m) (al := aly), hb, hbm, hwq, hiq, hql, hd]
            refine ⟨⟨by omega, hql2, hl, ?_, hc2b.1, hc2b.2, by simp [dels]; omega⟩, ?_⟩
            · rw [List.getElem?_eq_getElem hql2]; exact hcs _ (List.getElem_mem hql2)
            · rw [over_setO]
              have e : addAll aly (readN (x.columns[q]?.getD default).read i q c2 (dels (q - i)) (x.columns[q]?.getD default).read.length) = al1 := by
                rw [← hal1, if_pos h]
                simp [readC, show y - 1 = q by omega, hc2]
              rw [e]
              exact le_map hcl hmN (by omega) (by simp) (by simp) (by simp [hb, hbm])
          · simp at h
            have e : aly = al1 := by rw [← hal1, if_neg (by omega)]; rfl
            rw [e]
            exact SatD.skip ⟨rfl, le_map hcl hmN (by omega) (by simp) (by simp) (by simp [hb, hbm])⟩
        refine SatD.seq ?_
        obtain ⟨al2, hal2⟩ : ∃ l, addAll al1 (insN x.insert i y cost (dels (y - i)) x.insert.length) = l := ⟨_, rfl⟩
        refine SatD.to ⟨DM.look [(0, .ptr b 0), (1, .v (ti i)), (4, .v (ti x.columns.length)), (5, .v (ti y)), (6, .v (ti cost)), (7, .v (.sl (opsT (dels (y - i)))))], over [(m, mapOb al2)] f0, N + 1000, N, []⟩ ?_ ?_
        · refine SatD.regSeq hΓ follows [0, 1, 4, 5, 6, 7, 53, 54, 55] ?_
          simp [d30r7, hb, hbm, bcells]
          refine SatD.block ?_
          refine SatD.loop (fun z : Nat => ⟨DM.look [(0, .ptr b 0), (1, .v (ti i)), (4, .v (ti x.columns.length)), (5, .v (ti y)), (6, .v (ti cost)), (7, .v (.sl (opsT (dels (y - i))))), (53, .v (.sl (intsT x.insert))), (54, .v (ti x.insert.length)), (55, .v (ti z))], over [(m, mapOb (addAll al1 (insN x.insert i y cost (dels (y - i)) z)))] f0, N + 1000, N, []⟩)
            (fun z => z ≤ x.insert.length) (fun z => x.insert.length - z) 0 ?_ (by omega) (fun z hz => ?_)
          · exact le_map hcl hmN (by omega) (by simp) (by simp [insN, addAll]) (by simp [hb, hbm])
          refine SatD.regSeq hΓ follows [0, 1, 4, 5, 6, 7, 53, 54, 55, 56] ?_
          simp [d30r8]
          refine SatD.seq ?_
          refine SatD.cond rfl (fun h => ?_) (fun h => ?_)
          · simp at h
            refine SatD.skip ?_
            simp
            refine SatD.seq ?_
            refine SatD.block ?_
            obtain ⟨p, hp⟩ : ∃ p, x.insert.getD z default = p := ⟨_, rfl⟩
            have hr := rowAt_ints h
            have hpb := hinp p (by rw [← hp]; simp [List.getD, h])
            have hp0 : x.insert.getD z 0 = p := hp
            have hsucc := insN_succ x.insert i y cost (dels (y - i)) z
            rw [hp0] at hsucc
            rw [hp] at hr
            refine SatD.regSeq hΓ follows [0, 1, 4, 5, 6, 7, 10, 11, 53, 54, 55] ?_
            simp [d30r9, hr, h]
            obtain ⟨alz, halz⟩ : ∃ l, addAll al1 (insN x.insert i y cost (dels (y - i)) z) = l := ⟨_, rfl⟩
            rw [halz]
            refine SatD.to ⟨DM.look [(0, .ptr b 0), (1, .v (ti i)), (4, .v (ti x.columns.length)), (5, .v (ti y)), (6, .v (ti cost)), (7, .v (.sl (opsT (dels (y - i))))), (53, .v (.sl (intsT x.insert))), (54, .v (ti x.insert.length)), (55, .v (ti z))], over [(m, mapOb (addAll al1 (insN x.insert i y cost (dels (y - i)) (z + 1))))] f0, N + 1000, N, []⟩ ?_ ?_
            · refine SatD.regA hΓ follows (rs := d30r10S) (.inr ⟨_, rfl⟩) (by kernel_rfl) [0, 1, 4, 5, 6, 7, 53, 54, 55] ?_
              have w1 : IntKind.i64.wrap (2 * (i : Int)) = 2 * i := wrap_id (by omega)
              have w2 : IntKind.i64.wrap (2 * (y : Int)) = 2 * y := wrap_id (by omega)
              have w4 : IntKind.i64.wrap (cost + p) = cost + p := wrap_id (by omega)
              have hdl : (dels (y - i)).length = y - i := by simp [dels]
              simp [d30r10S, w1, w2, w4, fn49, pre49, chunk, roomOk, k48, hb, bcells, hbm, mapOb, arcs_entries, Nat.add_assoc, nb, nm]
              refine ⟨⟨_, rfl, by omega⟩, by omega, fun n hn => ?_, ?_⟩
              · simp only [names, List.mem_singleton] at hn
                subst hn
                simp
              · have e : addAll al1 (insN x.insert i y cost (dels (y - i)) (z + 1)) = addL alz ⟨2 * i, 2 * y, z, cost + p, dels (y - i) ++ [(3, (z : Int))]⟩ := by
                  rw [hsucc, addAll_append, halz]; rfl
                rw [e]
                refine le_add ⟨2 * i, 2 * y, z, cost + p, dels (y - i) ++ [(3, (z : Int))]⟩ hcl hmN ?_ ?_ ?_ (opsT_snoc _ _ _) ?_
                · omega
                · omega
                · omega
                · simp [hb, nb, hbm]
            · refine SatD.reg hΓ follows [0, 1, 4, 5, 6, 7, 53, 54, 55] ?_
              simp [d30r11]
              rw [wrap_id (by omega)]
              exact ⟨z + 1, le_map hcl hmN (by omega) (by simp) (by simp) (by simp [hb, hbm]), by omega, by omega⟩
          · simp at h
            have : z = x.insert.length := by omega
            subst this
            refine SatD.exit ⟨rfl, ?_⟩
            rw [hal2]
            exact le_map hcl hmN (by omega) (by simp) (by simp) (by simp [hb, hbm])
        refine SatD.regASeq hΓ follows (rs := d30r12S) (.inr ⟨_, rfl⟩) (by kernel_rfl) [0, 1, 4, 5, 6, 7, 80] ?_
        simp [d30r12S, k50_eq (x := x) (m := m), hb, hbm]
        refine ⟨⟨by omega, hl⟩, ?_⟩
        have hcd : addAll aly (cands x i y) = addAll al2 (if swapOk x y then [⟨2 * i, 2 * y + 1, (x.columns.getD (y + 1) default).kind, cost + x.swap, dels (y - i) ++ [(4, 0)]⟩] else []) := by
          rw [← hal2, ← hal1, ← addAll_append, ← addAll_append]
          simp [cands, hcost]
        refine SatD.cond rfl (fun h => ?_) (fun h => ?_)
        · rw [hcd, if_pos h]
          have hsw2 : y + 1 < x.columns.length := by simp [swapOk] at h; exact h.1
          have hr : DM.rowAt (colsT x.columns) ((y : Int) + 1) = _ := rowAt_cols hsw2
          obtain ⟨c2, hc2⟩ : ∃ c, x.columns.getD (y + 1) default = c := ⟨_, rfl⟩
          rw [hc2] at hr ⊢
          have w0 : IntKind.i64.wrap ((y : Int) + 1) = y + 1 := wrap_id (by omega)
          have w1 : IntKind.i64.wrap (2 * (i : Int)) = 2 * i := wrap_id (by omega)
          have w2 : IntKind.i64.wrap (2 * (y : Int)) = 2 * y := wrap_id (by omega)
          have w3 : IntKind.i64.wrap (2 * (y : Int) + 1) = 2 * y + 1 := wrap_id (by omega)
          have w4 : IntKind.i64.wrap (cost + x.swap) = cost + x.swap := wrap_id (by omega)
          have hdl : (dels (y - i)).length = y - i := by simp [dels]
          have hlt1 : ((y : Int) + 1 < x.columns.length) = True := by simp; omega
          have hlt2 : (0 ≤ (y : Int) + 1) = True := by simp; omega
          refine SatD.regA hΓ follows (rs := retouch (nameF b N) (annot d30r13S [none,none,none,none,none,none,none,none,none,none, some [0], none,none,some [],none, some [], none,none,none,none,none, some [0],none,none,some [],none,none,some [1239]])) (.inl rfl) (by rw [regionOk_map (nameF_inj hbN)]; kernel_rfl) [0, 1, 4, 5] ?_
          simp [retouch, retouch1, annot, touchOk, opdsOf, names, namesL, nameF, d30r13S, w0, w1, w2, w3, w4, hr, hlt1, hlt2, Column.enc, fn49, pre49, chunk, roomOk, k48, hb, bcells, hbm, mapOb, arcs_entries, Nat.add_assoc, nb, nm]
          refine ⟨⟨_, rfl, by omega⟩, by omega, ?_⟩
          refine le_add ⟨2 * i, 2 * y + 1, c2.kind, cost + x.swap, dels (y - i) ++ [(4, 0)]⟩ hcl hmN ?_ ?_ ?_ (opsT_snoc _ _ _) ?_
          · omega
          · omega
          · omega
          · simp [hb, nb, hbm]
        · rw [hcd, if_neg (by simp [h])]
          exact SatD.skip ⟨rfl, le_map hcl hmN (by omega) (by simp) (by simp [addAll]) (by simp [hb, hbm])⟩
      · refine SatD.reg hΓ follows [0, 1, 4, 5] ?_
        simp [d30r14]
        rw [wrap_id (by omega)]
        refine ⟨y + 1, le_map hcl hmN (by omega) (by simp) (by simp; rw [fromN_succ x hy1, addAll_append, haly]) (by simp [hb, hbm]), ⟨by omega, by omega⟩, by omega⟩
    · simp at hcc
      have : y = x.columns.length + 1 := by omega
      subst this
      refine SatD.exit ⟨rfl, ?_⟩
      exact le_map hcl hmN (by omega) (by simp) (by simp) (by simp [hb, hbm])
  · obtain ⟨al3, hal3⟩ : ∃ l, addAll al (fromN x i (x.columns.length + 1)) = l := ⟨_, rfl⟩
    have hcd : addAll al (fromL x i) = addAll al3 (if swapOk x i then [⟨2 * i + 1, 2 * i + 4, (x.columns.getD i default).kind, 0, []⟩] else []) := by
      rw [← hal3, ← addAll_append]; rfl
    rw [hal3]
    refine SatD.regASeq hΓ follows (rs := d30r15S) (.inr ⟨_, rfl⟩) (by kernel_rfl) [0, 1, 113] ?_
    simp [d30r15S, k50_eq (x := x) (m := m), hb, hbm]
    refine ⟨⟨by omega, hl⟩, ?_⟩
    refine SatD.to ⟨DM.look [], over [(m, mapOb (addAll al (fromL x i)))] f0, N + 1000, N, []⟩ ?_ (by simp [d30res]; rfl)
    refine SatD.cond rfl (fun h => ?_) (fun h => ?_)
    · rw [hcd, if_pos h]
      have hsw2 : i < x.columns.length := by simp [swapOk] at h; omega
      have hr := rowAt_cols hsw2
      obtain ⟨c2, hc2⟩ : ∃ c, x.columns.getD i default = c := ⟨_, rfl⟩
      rw [hc2] at hr ⊢
      have w1 : IntKind.i64.wrap (2 * (i : Int)) = 2 * i := wrap_id (by omega)
      have w2 : IntKind.i64.wrap (2 * (i : Int) + 1) = 2 * i + 1 := wrap_id (by omega)
      have w3 : IntKind.i64.wrap (2 * (i : Int) + 4) = 2 * i + 4 := wrap_id (by omega)
      refine SatD.regA hΓ follows (rs := d30r16S) (.inr ⟨_, rfl⟩) (by kernel_rfl) [] ?_
      simp [d30r16S, w1, w2, w3, hr, hsw2, Column.enc, k48, hb, bcells, hbm, mapOb, arcs_entries, Nat.add_assoc, nb, nm]
      refine ⟨fun n hn => (by simp [names] at hn), ?_⟩
      rw [over_setO]
      refine Le.keepO (l := []) hcl (by omega) (by simp; omega) (by simp [overKeep]) ⟨⟨_, by simp; exact ⟨rfl, rfl⟩, corOb_add (c := ⟨2 * i + 1, 2 * i + 4, c2.kind, 0, []⟩) (d := .nil0) ?_, fun _ => by simp [sameVer, mapOb]⟩, trivial⟩ (by simp)
      simp [opsT]
    · rw [hcd, if_neg (by simp [h])]
      exact SatD.skip ⟨rfl, le_map hcl hmN (by omega) (by simp) (by simp [addAll]) (by simp)⟩
end Go.Proofs
