/- The reference's Build, the walk. Conditions: none. -/
import Derived.Test.YtljcdomdjgolkaaGreatDoorXao
import Derived.Test.YtljcdomdjgolkaaGreatDoorXan
import Derived.Shelf.SlSortCmp.NoneTotal
import Derived.KernelRfl
import Derived.Test.YtljcdomdjgolkaaGreatDoorProg
import Derived.Test.YtljcdomdjgolkaaGreatDoorXag
namespace Go.Proofs
open Go.DM
set_option linter.unusedSimpArgs false
set_option linter.unusedVariables false

set_option maxRecDepth 20000 in
set_option maxHeartbeats 16000000 in
theorem t14 (x : Input) (hx : inOk x) (hn60 : x.columns.length ≤ 60) (ht : x.insert.length ≤ 100) (hread : ∀ c ∈ x.columns, c.read.length = x.insert.length) : CallsOk Tryz.prog 12 [x.enc] (refBuildL x).enc := by
  have hΓ := ok14 x hx.1
  have hxe : T.agg [.sl (colsT x.columns), .sl (intsT x.insert), ti x.swap] = x.enc := rfl
  obtain ⟨hd, hcs, hins, hinp, hsw0, hsw⟩ := hx
  obtain ⟨n, hn⟩ : ∃ n, x.columns.length = n := ⟨_, rfl⟩
  obtain ⟨tm, htm⟩ : ∃ n, x.insert.length = n := ⟨_, rfl⟩
  have hdb := delC_bound hd
  have lenA : ∀ y, y ≤ n + 1 → (putAll [] (ft (rI x) 0 y)).length ≤ 430000 := by
    intro y hy
    have h1 := putAll_len (ft (rI x) 0 y) []
    have h2 := ft_len (f := rI x) (B := 7000) (fun k => rI_len x k ht hn60) 0 y
    simp at h1
    omega
  obtain ⟨R, hR⟩ : ∃ R, (refBuildL x).enc = R := ⟨_, rfl⟩
  refine c14.ok (by simp) (initSt_sat ?_)
  rw [hR]
  simp only [refBuildL, refArcs] at hR
  simp [Input.enc]
  refine SatD.regSeq hΓ follows [1, 2] ?_
  simp [d14r0]
  refine SatD.le (Le.keep (o := [(1003, .box [.v (ti 0), .nil0, .nil0])]) (l := [(1, .v (.box [.sl (colsT x.columns), .sl (intsT x.insert), ti x.swap])), (2, .ptr 1003 0)]) (nxt' := 1500) ?_ ?_ ?_ ?_) ?_
  · simp
  · simp
  · simp
  · simp
  refine SatD.regSeq hΓ follows [1, 2, 3] ?_
  simp [d14r1, hn]
  refine SatD.regSeq hΓ follows [1, 2, 3, 4] ?_
  simp [d14r2]
  refine SatD.seq ?_
  refine SatD.le (Le.keep (o := [(1003, .box [.v (ti 0), .nil0, .nil0])]) (l := [(1, .v (.box [.sl (colsT x.columns), .sl (intsT x.insert), ti x.swap])), (2, .ptr 1003 0), (3, .v (ti n)), (4, .v (.sl (arcsT [])))]) (nxt' := 2500) ?_ ?_ ?_ ?_) ?_
  · simp
  · simp
  · simp
  · simp [arcsT]
  refine SatD.regSeq hΓ follows [1, 2, 3, 4, 5] ?_
  simp [d14r3]
  obtain ⟨al1, hal1⟩ : ∃ l, putAll [] (ft (rI x) 0 (n + 1)) = l := ⟨_, rfl⟩
  have lal1 : al1.length ≤ 430000 := by rw [← hal1]; exact lenA _ (by omega)
  refine SatD.to ⟨DM.look [(1, .v (.box [.sl (colsT x.columns), .sl (intsT x.insert), ti x.swap])), (2, .ptr 1003 0), (3, .v (ti n)), (4, .v (.sl (arcsT al1)))], obs [(1003, .box [.v (ti 0), .nil0, .nil0])], 100000, 1000, []⟩ ?_ ?_
  · refine SatD.block ?_
    refine SatD.loop (fun y : Nat => ⟨DM.look [(1, .v (.box [.sl (colsT x.columns), .sl (intsT x.insert), ti x.swap])), (2, .ptr 1003 0), (3, .v (ti n)), (4, .v (.sl (arcsT (putAll [] (ft (rI x) 0 y))))), (5, .v (ti y))], obs [(1003, .box [.v (ti 0), .nil0, .nil0])], 10000, 1000, []⟩)
      (fun y => y ≤ n + 1) (fun y => n + 1 - y) 0 (Le.keep ?_ ?_ ?_ ?_) (by simp) (fun y hy => ?_)
    · simp
    · simp
    · simp
    · simp [ft_nil, putAll]
    have lal := lenA y hy
    have hsuccI := ft_succ (rI x) (Nat.zero_le y)
    obtain ⟨al, hal⟩ : ∃ l, putAll [] (ft (rI x) 0 y) = l := ⟨_, rfl⟩
    have hnext : putAll [] (ft (rI x) 0 (y + 1)) = putAll al (rI x y) := by rw [hsuccI, putAll_append, hal]
    rw [hal] at lal ⊢
    refine SatD.seq ?_
    refine SatD.regSeq hΓ follows [1, 2, 3, 4, 5, 20] ?_
    simp [d14r4]
    refine SatD.cond rfl (fun hcc => ?_) (fun hcc => ?_)
    · simp at hcc
      have w2y : IntKind.i64.wrap (2 * (y : Int)) = 2 * y := wrap_id (by omega)
      refine SatD.skip ?_
      simp
      refine SatD.seq ?_
      refine SatD.to ⟨DM.look [(1, .v (.box [.sl (colsT x.columns), .sl (intsT x.insert), ti x.swap])), (2, .ptr 1003 0), (3, .v (ti n)), (4, .v (.sl (arcsT (putAll al (rI x y))))), (5, .v (ti y))], obs [(1003, .box [.v (ti 0), .nil0, .nil0])], 50000, 1000, []⟩ ?_ ?_
      · refine SatD.block ?_
        refine SatD.seq ?_
        refine SatD.regSeq hΓ follows [1, 2, 3, 4, 5, 6] ?_
        simp [d14r5]
        obtain ⟨al2, hal2⟩ : ∃ l, putAll al (ft (rM x y) y (n + 1)) = l := ⟨_, rfl⟩
        have lB : ∀ m, m ≤ n + 1 → (putAll al (ft (rM x y) y m)).length ≤ 440000 := by
          intro m hm
          have h1 := putAll_len (ft (rM x y) y m) al
          have h2 := ft_len (f := rM x y) (B := 101) (fun k => rM_len x y k ht) y m
          omega
        have lal2 : al2.length ≤ 440000 := by rw [← hal2]; exact lB _ (by omega)
        have hfin : putAll al (rI x y) = putAll al2 (rT x y) := by rw [← hal2, ← putAll_append]; unfold rI; rw [hn]
        refine SatD.to ⟨DM.look [(1, .v (.box [.sl (colsT x.columns), .sl (intsT x.insert), ti x.swap])), (2, .ptr 1003 0), (3, .v (ti n)), (4, .v (.sl (arcsT al2))), (5, .v (ti y))], obs [(1003, .box [.v (ti 0), .nil0, .nil0])], 40000, 1000, []⟩ ?_ ?_
        · refine SatD.block ?_
          refine SatD.loop (fun m : Nat => ⟨DM.look [(1, .v (.box [.sl (colsT x.columns), .sl (intsT x.insert), ti x.swap])), (2, .ptr 1003 0), (3, .v (ti n)), (4, .v (.sl (arcsT (putAll al (ft (rM x y) y m))))), (5, .v (ti y)), (6, .v (ti m))], obs [(1003, .box [.v (ti 0), .nil0, .nil0])], 20000, 1000, []⟩)
            (fun m => y ≤ m ∧ m ≤ n + 1) (fun m => n + 1 - m) y (Le.keep ?_ ?_ ?_ ?_) (by omega) (fun m hm => ?_)
          · simp
          · simp
          · simp
          · simp [ft_nil, putAll]
          obtain ⟨hm1, hm2⟩ := hm
          have lalm := lB m hm2
          have hsuccM := ft_succ (rM x y) hm1
          obtain ⟨alm, halm⟩ : ∃ l, putAll al (ft (rM x y) y m) = l := ⟨_, rfl⟩
          have hnextM : putAll al (ft (rM x y) y (m + 1)) = putAll alm (rM x y m) := by rw [hsuccM, putAll_append, halm]
          rw [halm] at lalm ⊢
          refine SatD.seq ?_
          refine SatD.regSeq hΓ follows [1, 2, 3, 4, 5, 6, 26] ?_
          simp [d14r6]
          refine SatD.cond rfl (fun hcm => ?_) (fun hcm => ?_)
          · simp at hcm
            have w2m : IntKind.i64.wrap (2 * (m : Int)) = 2 * m := wrap_id (by omega)
            have w2m1 : IntKind.i64.wrap (2 * (m : Int) + 1) = 2 * m + 1 := wrap_id (by omega)
            have w2m2 : IntKind.i64.wrap (2 * (m : Int) + 2) = 2 * m + 2 := wrap_id (by omega)
            have wm1 : IntKind.i64.wrap ((m : Int) + 1) = m + 1 := wrap_id (by omega)
            have wmy : IntKind.i64.wrap ((m : Int) - y) = ((m - y : Nat) : Int) := by rw [wrap_id (by omega)]; omega
            obtain ⟨d, hdd⟩ : ∃ d, delC x y m = d := ⟨_, rfl⟩
            have hdb' := hdb y m
            rw [hdd] at hdb'
            refine SatD.skip ?_
            simp
            refine SatD.seq ?_
            refine SatD.to ⟨DM.look [(1, .v (.box [.sl (colsT x.columns), .sl (intsT x.insert), ti x.swap])), (2, .ptr 1003 0), (3, .v (ti n)), (4, .v (.sl (arcsT (putAll alm (rM x y m))))), (5, .v (ti y)), (6, .v (ti m))], obs [(1003, .box [.v (ti 0), .nil0, .nil0])], 40000, 1000, []⟩ ?_ ?_
            · refine SatD.block ?_
              refine SatD.regSeq hΓ follows [1, 2, 3, 4, 5, 6, 7] ?_
              simp [d14r7, hxe, hdd]
              refine ⟨⟨y, m, ⟨rfl, rfl⟩, hm1, by omega⟩, ?_⟩
              refine SatD.seq ?_
              refine SatD.regSeq hΓ follows [1, 2, 3, 4, 5, 6, 7, 8] ?_
              simp [d14r8]
              obtain ⟨al3, hal3⟩ : ∃ l, putAll alm (ft (rA x y m) 0 tm) = l := ⟨_, rfl⟩
              have lC : ∀ t, t ≤ tm → (putAll alm (ft (rA x y m) 0 t)).length ≤ 450000 := by
                intro t htt
                have h1 := putAll_len (ft (rA x y m) 0 t) alm
                have h2 := ft_len (f := rA x y m) (B := 1) (fun k => rA_len x y m k) 0 t
                omega
              have lal3 : al3.length ≤ 450000 := by rw [← hal3]; exact lC _ (by omega)
              have hfin3 : putAll alm (rM x y m) = putAll al3 (rS x y m) := by rw [← hal3, ← putAll_append]; unfold rM; rw [htm]
              refine SatD.to ⟨DM.look [(1, .v (.box [.sl (colsT x.columns), .sl (intsT x.insert), ti x.swap])), (2, .ptr 1003 0), (3, .v (ti n)), (4, .v (.sl (arcsT al3))), (5, .v (ti y)), (6, .v (ti m)), (7, .v (ti d))], obs [(1003, .box [.v (ti 0), .nil0, .nil0])], 40000, 1000, []⟩ ?_ ?_
              · refine SatD.block ?_
                refine SatD.loop (fun t : Nat => ⟨DM.look [(1, .v (.box [.sl (colsT x.columns), .sl (intsT x.insert), ti x.swap])), (2, .ptr 1003 0), (3, .v (ti n)), (4, .v (.sl (arcsT (putAll alm (ft (rA x y m) 0 t))))), (5, .v (ti y)), (6, .v (ti m)), (7, .v (ti d)), (8, .v (ti t))], obs [(1003, .box [.v (ti 0), .nil0, .nil0])], 30000, 1000, []⟩)
                  (fun t => t ≤ tm) (fun t => tm - t) 0 (Le.keep ?_ ?_ ?_ ?_) (by simp) (fun t htt => ?_)
                · simp
                · simp
                · simp
                · simp [ft_nil, putAll]
                have lalt := lC t htt
                have hsuccT := ft_succ (rA x y m) (Nat.zero_le t)
                obtain ⟨alt, halt⟩ : ∃ l, putAll alm (ft (rA x y m) 0 t) = l := ⟨_, rfl⟩
                have hnextT : putAll alm (ft (rA x y m) 0 (t + 1)) = putAll alt (rA x y m t) := by rw [hsuccT, putAll_append, halt]
                rw [halt] at lalt ⊢
                refine SatD.seq ?_
                refine SatD.regSeq hΓ follows [1, 2, 3, 4, 5, 6, 7, 8, 37] ?_
                simp [d14r9, htm]
                refine SatD.cond rfl (fun hct => ?_) (fun hct => ?_)
                · simp at hct
                  refine SatD.skip ?_
                  simp
                  refine SatD.seq ?_
                  obtain ⟨q, hq⟩ : ∃ q, rA x y m t = q := ⟨_, rfl⟩
                  rw [hq] at hnextT
                  unfold rA at hq
                  rw [hdd, hn] at hq
                  refine SatD.to ⟨DM.look [(1, .v (.box [.sl (colsT x.columns), .sl (intsT x.insert), ti x.swap])), (2, .ptr 1003 0), (3, .v (ti n)), (4, .v (.sl (arcsT (putAll alt q)))), (5, .v (ti y)), (6, .v (ti m)), (7, .v (ti d)), (8, .v (ti t))], obs [(1003, .box [.v (ti 0), .nil0, .nil0])], 40000, 1000, []⟩ ?_ ?_
                  · refine SatD.block ?_
                    obtain ⟨c, hc⟩ : ∃ c : Bool, decide (m < n ∧ 0 ≤ readAt x m t) = c := ⟨_, rfl⟩
                    by_cases hmn : m < n
                    · have hmc : m < x.columns.length := by omega
                      have hrc := rowAt_cols hmc
                      obtain ⟨cl, hcl⟩ : ∃ c, x.columns.getD m default = c := ⟨_, rfl⟩
                      have hclm : cl ∈ x.columns := by rw [← hcl]; simp [List.getD, hmc]
                      have hrl := hread cl hclm
                      have hcok := hcs cl hclm
                      rw [hcl] at hrc
                      have htr : t < cl.read.length := by omega
                      have hrr := rowAt_ints htr
                      have hra : readAt x m t = cl.read.getD t default := by unfold readAt; rw [hcl]
                      rw [hra] at hq hc
                      obtain ⟨u, hu⟩ : ∃ u, cl.read.getD t default = u := ⟨_, rfl⟩
                      rw [hu] at hrr hq hc
                      refine SatD.regToS hΓ follows [(1, .v (.box [.sl (colsT x.columns), .sl (intsT x.insert), ti x.swap])), (2, .ptr 1003 0), (3, .v (ti n)), (4, .v (.sl (arcsT alt))), (5, .v (ti y)), (6, .v (ti m)), (7, .v (ti d)), (8, .v (ti t)), (54, .v (.bool c))] ?_ ?_
                      · by_cases q2 : 0 ≤ u
                        · have hc' : c = true := by rw [← hc]; simp [hmn, q2]
                          simp [d14r10, hmn, hn, hrc, Column.enc, htr, hrr, q2, hc']
                        · have hc' : c = false := by rw [← hc]; simp [q2]
                          simp [d14r10, hmn, hn, hrc, Column.enc, htr, hrr, q2, hc']
                      refine SatD.cond rfl (fun h => ?_) (fun h => ?_)
                      · rw [h] at hc
                        simp only [decide_eq_true_eq] at hc
                        rw [if_pos hc] at hq
                        have hub : u ≤ 1099511627776 := hcok.2 u (by rw [← hu]; simp [List.getD, htr])
                        subst hq
                        refine SatD.reg hΓ follows [1, 2, 3, 4, 5, 6, 7, 8] ?_
                        simp [d14r11, w2y, w2m, w2m2, wmy, hmn, hn, hrc, Column.enc, htr, hrr]
                        refine ⟨⟨d, u, ⟨rfl, rfl⟩, by omega, by omega⟩, ⟨m - y, rfl, by omega⟩, ⟨alt, ⟨rfl, ⟨⟨2 * y, 2 * m + 2, t, satA d u, dels (m - y) ++ [(1, (t : Int))]⟩, rfl⟩⟩, by omega⟩, Le.keep ?_ ?_ ?_ ?_⟩
                        · simp
                        · simp
                        · simp
                        · simp [putAll]
                      · rw [h] at hc
                        simp only [decide_eq_false_iff_not] at hc
                        rw [if_neg hc] at hq
                        subst hq
                        refine SatD.skip ⟨rfl, Le.keep ?_ ?_ ?_ ?_⟩
                        · simp
                        · simp
                        · simp
                        · simp [putAll]
                    · have hc' : c = false := by rw [← hc]; simp [hmn]
                      rw [if_neg (fun h => hmn h.1)] at hq
                      subst hq
                      refine SatD.regToS hΓ follows [(1, .v (.box [.sl (colsT x.columns), .sl (intsT x.insert), ti x.swap])), (2, .ptr 1003 0), (3, .v (ti n)), (4, .v (.sl (arcsT alt))), (5, .v (ti y)), (6, .v (ti m)), (7, .v (ti d)), (8, .v (ti t)), (54, .v (.bool false))] ?_ ?_
                      · simp [d14r10, hmn]
                      refine SatD.cond rfl (fun h => by cases h) (fun _ => ?_)
                      refine SatD.skip ⟨rfl, Le.keep ?_ ?_ ?_ ?_⟩
                      · simp
                      · simp
                      · simp
                      · simp [putAll]
                  · refine SatD.reg hΓ follows [1, 2, 3, 4, 5, 6, 7, 8] ?_
                    simp [d14r12]
                    rw [wrap_id (by omega)]
                    refine ⟨t + 1, Le.keep ?_ ?_ ?_ ?_, by omega, by omega⟩
                    · simp
                    · simp
                    · simp
                    · simp [hnextT]
                · simp at hct
                  have : t = tm := by omega
                  subst this
                  refine SatD.exit ⟨rfl, Le.keep ?_ ?_ ?_ ?_⟩
                  · simp
                  · simp
                  · simp
                  · simp [← hal3, halt]
              simp
              refine SatD.regSeq hΓ follows [1, 2, 3, 4, 5, 6, 7, 83] ?_
              simp [d14r13, hxe]
              refine ⟨⟨m, rfl, by omega⟩, ?_⟩
              rw [hfin3]
              obtain ⟨q, hq⟩ : ∃ q, rS x y m = q := ⟨_, rfl⟩
              rw [hq]
              unfold rS at hq
              rw [hdd] at hq
              refine SatD.cond rfl (fun h => ?_) (fun h => ?_)
              · rw [if_pos h] at hq
                have hsw2 : m + 1 < x.columns.length := by simp [swapOk] at h; exact h.1
                have hrc : DM.rowAt (colsT x.columns) ((m : Int) + 1) = _ := rowAt_cols hsw2
                obtain ⟨cl, hcl⟩ : ∃ c, x.columns.getD (m + 1) default = c := ⟨_, rfl⟩
                rw [hcl] at hrc hq
                have hlt1 : ((m : Int) + 1 < n) = True := by simp; omega
                have hlt2 : (0 ≤ (m : Int) + 1) = True := by simp; omega
                subst hq
                refine SatD.reg hΓ follows [1, 2, 3, 4, 5, 6] ?_
                simp [d14r14, w2y, w2m, w2m1, wm1, wmy, hn, hrc, hlt1, hlt2, Column.enc]
                refine ⟨⟨d, x.swap, ⟨rfl, rfl⟩, by omega, by omega⟩, ⟨m - y, rfl, by omega⟩, ⟨al3, ⟨rfl, ⟨⟨2 * y, 2 * m + 1, cl.kind, satA d x.swap, dels (m - y) ++ [(4, 0)]⟩, rfl⟩⟩, by omega⟩, Le.keep ?_ ?_ ?_ ?_⟩
                · simp
                · simp
                · simp
                · simp [putAll]
              · rw [if_neg (by simp [h])] at hq
                subst hq
                refine SatD.skip ⟨rfl, Le.keep ?_ ?_ ?_ ?_⟩
                · simp
                · simp
                · simp
                · simp [putAll]
            · refine SatD.reg hΓ follows [1, 2, 3, 4, 5, 6] ?_
              simp [d14r15]
              rw [wrap_id (by omega)]
              refine ⟨m + 1, Le.keep ?_ ?_ ?_ ?_, by omega, by omega⟩
              · simp
              · simp
              · simp
              · simp [hnextM]
          · simp at hcm
            have : m = n + 1 := by omega
            subst this
            refine SatD.exit ⟨rfl, Le.keep ?_ ?_ ?_ ?_⟩
            · simp
            · simp
            · simp
            · simp [← hal2, halm]
        simp
        refine SatD.regSeq hΓ follows [1, 2, 3, 4, 5, 110] ?_
        simp [d14r16, hxe]
        refine ⟨⟨y, rfl, by omega⟩, ?_⟩
        rw [hfin]
        obtain ⟨q, hq⟩ : ∃ q, rT x y = q := ⟨_, rfl⟩
        rw [hq]
        unfold rT at hq
        refine SatD.cond rfl (fun h => ?_) (fun h => ?_)
        · rw [if_pos h] at hq
          have hsw2 : y < x.columns.length := by simp [swapOk] at h; omega
          have hrc := rowAt_cols hsw2
          obtain ⟨cl, hcl⟩ : ∃ c, x.columns.getD y default = c := ⟨_, rfl⟩
          rw [hcl] at hrc hq
          have w2y1 : IntKind.i64.wrap (2 * (y : Int) + 1) = 2 * y + 1 := wrap_id (by omega)
          have w2y4 : IntKind.i64.wrap (2 * (y : Int) + 4) = 2 * y + 4 := wrap_id (by omega)
          have hyn : y < n := by omega
          subst hq
          refine SatD.reg hΓ follows [1, 2, 3, 4, 5] ?_
          simp [d14r17, w2y, w2y1, w2y4, hn, hrc, hyn, Column.enc]
          refine ⟨⟨al2, ⟨rfl, ⟨⟨2 * y + 1, 2 * y + 4, cl.kind, 0, []⟩, rfl⟩⟩, by omega⟩, Le.keep ?_ ?_ ?_ ?_⟩
          · simp
          · simp
          · simp
          · simp [putAll]
        · rw [if_neg (by simp [h])] at hq
          subst hq
          refine SatD.skip ⟨rfl, Le.keep ?_ ?_ ?_ ?_⟩
          · simp
          · simp
          · simp
          · simp [putAll]
      · refine SatD.reg hΓ follows [1, 2, 3, 4, 5] ?_
        simp [d14r18]
        rw [wrap_id (by omega)]
        refine ⟨y + 1, Le.keep ?_ ?_ ?_ ?_, by omega, by omega⟩
        · simp
        · simp
        · simp
        · simp [hnext]
    · simp at hcc
      have : y = n + 1 := by omega
      subst this
      refine SatD.exit ⟨rfl, Le.keep ?_ ?_ ?_ ?_⟩
      · simp
      · simp
      · simp
      · simp [← hal1, hal]
  simp
  refine SatD.seq ?_
  refine SatD.regSeq hΓ follows [1, 2, 3, 4, 9] ?_
  simp [d14r19]
  obtain ⟨al2, hal2⟩ : ∃ l, putAll al1 (ft (iI x) 0 (n + 1)) = l := ⟨_, rfl⟩
  have lenB : ∀ y, y ≤ n + 1 → (putAll al1 (ft (iI x) 0 y)).length ≤ 900000 := by
    intro y hy
    have h1 := putAll_len (ft (iI x) 0 y) al1
    have h2 := ft_len (f := iI x) (B := 7000) (fun k => iI_len x k ht hn60) 0 y
    omega
  refine SatD.to ⟨DM.look [(1, .v (.box [.sl (colsT x.columns), .sl (intsT x.insert), ti x.swap])), (2, .ptr 1003 0), (3, .v (ti n)), (4, .v (.sl (arcsT al2)))], obs [(1003, .box [.v (ti 0), .nil0, .nil0])], 100000, 1000, []⟩ ?_ ?_
  · refine SatD.block ?_
    refine SatD.loop (fun y : Nat => ⟨DM.look [(1, .v (.box [.sl (colsT x.columns), .sl (intsT x.insert), ti x.swap])), (2, .ptr 1003 0), (3, .v (ti n)), (4, .v (.sl (arcsT (putAll al1 (ft (iI x) 0 y))))), (9, .v (ti y))], obs [(1003, .box [.v (ti 0), .nil0, .nil0])], 110000, 1000, []⟩)
      (fun y => y ≤ n + 1) (fun y => n + 1 - y) 0 (Le.keep ?_ ?_ ?_ ?_) (by simp) (fun y hy => ?_)
    · simp
    · simp
    · simp
    · simp [ft_nil, putAll]
    have lal := lenB y hy
    have hsuccI := ft_succ (iI x) (Nat.zero_le y)
    obtain ⟨al, hal⟩ : ∃ l, putAll al1 (ft (iI x) 0 y) = l := ⟨_, rfl⟩
    have hnext : putAll al1 (ft (iI x) 0 (y + 1)) = putAll al (iI x y) := by rw [hsuccI, putAll_append, hal]
    rw [hal] at lal ⊢
    refine SatD.seq ?_
    refine SatD.regSeq hΓ follows [1, 2, 3, 4, 9, 128] ?_
    simp [d14r20]
    refine SatD.cond rfl (fun hcc => ?_) (fun hcc => ?_)
    · simp at hcc
      have w2y : IntKind.i64.wrap (2 * (y : Int)) = 2 * y := wrap_id (by omega)
      refine SatD.skip ?_
      simp
      refine SatD.seq ?_
      refine SatD.to ⟨DM.look [(1, .v (.box [.sl (colsT x.columns), .sl (intsT x.insert), ti x.swap])), (2, .ptr 1003 0), (3, .v (ti n)), (4, .v (.sl (arcsT (putAll al (iI x y))))), (9, .v (ti y))], obs [(1003, .box [.v (ti 0), .nil0, .nil0])], 150000, 1000, []⟩ ?_ ?_
      · refine SatD.block ?_
        refine SatD.regSeq hΓ follows [1, 2, 3, 4, 9, 10] ?_
        simp [d14r21]
        have lB : ∀ m, m ≤ n + 1 → (putAll al (ft (iM x y) y m)).length ≤ 910000 := by
          intro m hm
          have h1 := putAll_len (ft (iM x y) y m) al
          have h2 := ft_len (f := iM x y) (B := 100) (fun k => iM_len x y k ht) y m
          omega
        refine SatD.block ?_
        refine SatD.loop (fun m : Nat => ⟨DM.look [(1, .v (.box [.sl (colsT x.columns), .sl (intsT x.insert), ti x.swap])), (2, .ptr 1003 0), (3, .v (ti n)), (4, .v (.sl (arcsT (putAll al (ft (iM x y) y m))))), (9, .v (ti y)), (10, .v (ti m))], obs [(1003, .box [.v (ti 0), .nil0, .nil0])], 120000, 1000, []⟩)
          (fun m => y ≤ m ∧ m ≤ n + 1) (fun m => n + 1 - m) y (Le.keep ?_ ?_ ?_ ?_) (by omega) (fun m hm => ?_)
        · simp
        · simp
        · simp
        · simp [ft_nil, putAll]
        obtain ⟨hm1, hm2⟩ := hm
        have lalm := lB m hm2
        have hsuccM := ft_succ (iM x y) hm1
        obtain ⟨alm, halm⟩ : ∃ l, putAll al (ft (iM x y) y m) = l := ⟨_, rfl⟩
        have hnextM : putAll al (ft (iM x y) y (m + 1)) = putAll alm (iM x y m) := by rw [hsuccM, putAll_append, halm]
        rw [halm] at lalm ⊢
        refine SatD.seq ?_
        refine SatD.regSeq hΓ follows [1, 2, 3, 4, 9, 10, 134] ?_
        simp [d14r22]
        refine SatD.cond rfl (fun hcm => ?_) (fun hcm => ?_)
        · simp at hcm
          have w2m : IntKind.i64.wrap (2 * (m : Int)) = 2 * m := wrap_id (by omega)
          have wmy : IntKind.i64.wrap ((m : Int) - y) = ((m - y : Nat) : Int) := by rw [wrap_id (by omega)]; omega
          obtain ⟨d, hdd⟩ : ∃ d, delC x y m = d := ⟨_, rfl⟩
          have hdb' := hdb y m
          rw [hdd] at hdb'
          refine SatD.skip ?_
          simp
          refine SatD.seq ?_
          refine SatD.to ⟨DM.look [(1, .v (.box [.sl (colsT x.columns), .sl (intsT x.insert), ti x.swap])), (2, .ptr 1003 0), (3, .v (ti n)), (4, .v (.sl (arcsT (putAll alm (iM x y m))))), (9, .v (ti y)), (10, .v (ti m))], obs [(1003, .box [.v (ti 0), .nil0, .nil0])], 140000, 1000, []⟩ ?_ ?_
          · refine SatD.block ?_
            refine SatD.regSeq hΓ follows [1, 2, 3, 4, 9, 10, 11] ?_
            simp [d14r23]
            have lC : ∀ t, t ≤ tm → (putAll alm (ft (iT x y m) 0 t)).length ≤ 920000 := by
              intro t htt
              have h1 := putAll_len (ft (iT x y m) 0 t) alm
              have h2 := ft_len (f := iT x y m) (B := 1) (fun k => by simp [iT]) 0 t
              omega
            refine SatD.block ?_
            refine SatD.loop (fun t : Nat => ⟨DM.look [(1, .v (.box [.sl (colsT x.columns), .sl (intsT x.insert), ti x.swap])), (2, .ptr 1003 0), (3, .v (ti n)), (4, .v (.sl (arcsT (putAll alm (ft (iT x y m) 0 t))))), (9, .v (ti y)), (10, .v (ti m)), (11, .v (ti t))], obs [(1003, .box [.v (ti 0), .nil0, .nil0])], 130000, 1000, []⟩)
              (fun t => t ≤ tm) (fun t => tm - t) 0 (Le.keep ?_ ?_ ?_ ?_) (by simp) (fun t htt => ?_)
            · simp
            · simp
            · simp
            · simp [ft_nil, putAll]
            have lalt := lC t htt
            have hsuccT := ft_succ (iT x y m) (Nat.zero_le t)
            obtain ⟨alt, halt⟩ : ∃ l, putAll alm (ft (iT x y m) 0 t) = l := ⟨_, rfl⟩
            have hnextT : putAll alm (ft (iT x y m) 0 (t + 1)) = putAll alt (iT x y m t) := by rw [hsuccT, putAll_append, halt]
            rw [halt] at lalt ⊢
            refine SatD.seq ?_
            refine SatD.regSeq hΓ follows [1, 2, 3, 4, 9, 10, 11, 141] ?_
            simp [d14r24, htm]
            refine SatD.cond rfl (fun hct => ?_) (fun hct => ?_)
            · simp at hct
              refine SatD.skip ?_
              simp
              refine SatD.seq ?_
              refine SatD.block ?_
              have htx : t < x.insert.length := by omega
              have hrr := rowAt_ints htx
              obtain ⟨u, hu⟩ : ∃ u, x.insert.getD t default = u := ⟨_, rfl⟩
              have hub := hinp u (by rw [← hu]; simp [List.getD, htx])
              have hiT : iT x y m t = [⟨2 * y, 2 * m, t, satA d u, dels (m - y) ++ [(3, (t : Int))]⟩] := by unfold iT; rw [hdd, hu]
              rw [hu] at hrr
              refine SatD.reg hΓ follows [1, 2, 3, 4, 9, 10, 11] ?_
              simp [d14r25, hxe, hdd, w2y, w2m, wmy, htm, hrr, hct]
              refine ⟨⟨y, m, ⟨rfl, rfl⟩, hm1, by omega⟩, ⟨d, u, ⟨rfl, rfl⟩, by omega, by omega⟩, ⟨m - y, rfl, by omega⟩, ⟨alt, ⟨rfl, ⟨⟨2 * y, 2 * m, t, satA d u, dels (m - y) ++ [(3, (t : Int))]⟩, rfl⟩⟩, by omega⟩, ?_⟩
              refine SatD.reg hΓ follows [1, 2, 3, 4, 9, 10, 11] ?_
              simp [d14r26]
              rw [wrap_id (by omega)]
              refine ⟨t + 1, Le.keep ?_ ?_ ?_ ?_, by omega, by omega⟩
              · simp
              · simp
              · simp
              · rw [hiT] at hnextT
                have hn2 : putAll alm (ft (iT x y m) 0 (t + 1)) = putL alt ⟨2 * y, 2 * m, t, satA d u, dels (m - y) ++ [(3, (t : Int))]⟩ := hnextT
                simp [hn2]
            · simp at hct
              have : t = tm := by omega
              subst this
              refine SatD.exit ⟨rfl, Le.keep ?_ ?_ ?_ ?_⟩
              · simp
              · simp
              · simp
              · simp [← halt, iM, htm]
          · refine SatD.reg hΓ follows [1, 2, 3, 4, 9, 10] ?_
            simp [d14r27]
            rw [wrap_id (by omega)]
            refine ⟨m + 1, Le.keep ?_ ?_ ?_ ?_, by omega, by omega⟩
            · simp
            · simp
            · simp
            · simp [hnextM]
        · simp at hcm
          have : m = n + 1 := by omega
          subst this
          refine SatD.exit ⟨rfl, Le.keep ?_ ?_ ?_ ?_⟩
          · simp
          · simp
          · simp
          · simp [← halm, iI, hn]
      · refine SatD.reg hΓ follows [1, 2, 3, 4, 9] ?_
        simp [d14r28]
        rw [wrap_id (by omega)]
        refine ⟨y + 1, Le.keep ?_ ?_ ?_ ?_, by omega, by omega⟩
        · simp
        · simp
        · simp
        · simp [hnext]
    · simp at hcc
      have : y = n + 1 := by omega
      subst this
      refine SatD.exit ⟨rfl, Le.keep ?_ ?_ ?_ ?_⟩
      · simp
      · simp
      · simp
      · simp [← hal2, hal]
  simp
  have lal2 : al2.length ≤ 900000 := by rw [← hal2]; exact lenB _ (by omega)
  obtain ⟨N, hN⟩ : ∃ N, 2 * n + 1 = N := ⟨_, rfl⟩
  have w2n : IntKind.i64.wrap (2 * (n : Int)) = 2 * n := wrap_id (by omega)
  have w2n1 : IntKind.i64.wrap (2 * (n : Int) + 1) = (N : Int) := by rw [wrap_id (by omega)]; omega
  refine SatD.regSeq hΓ follows [1, 2, 3, 12] ?_
  simp [d14r29, w2n, w2n1]
  refine SatD.regSeq hΓ follows [1, 2, 3, 12, 13] ?_
  simp [d14r30, w2n, w2n1]
  refine ⟨by simp [roomOk]; omega, ?_⟩
  refine SatD.seq ?_
  refine SatD.regSeq hΓ follows [1, 2, 3, 12, 13, 14] ?_
  simp [d14r31]
  have hrl : (refFin x 0).length = N := by simp [refFin, hn, hN]
  have hlenF : ∀ k, (refFin x k).length = N := fun k => by simp [refFin, hn, hN]
  have hF0 : List.replicate N [T.int IntKind.i64 0] = intsT (refFin x 0) := by
    rw [← hN, ← hn]
    apply List.ext_getElem
    · simp [refFin, intsT]
    · intro i h1 h2
      simp [refFin, intsT]
  have hFs : ∀ k, k < N → (refFin x k).set k (if k % 2 = 0 then delC x (k / 2) n else 1099511627776) = refFin x (k + 1) := by
    intro k hk
    rw [← hn]
    apply List.ext_getElem
    · simp [refFin]
    · intro i h1 h2
      rw [List.getElem_set]
      simp only [refFin, List.getElem_map, List.getElem_range]
      by_cases e : k = i
      · subst e
        simp
      · rw [if_neg e]
        have hq : (i < k + 1) = (i < k) := propext ⟨fun h => by omega, fun h => by omega⟩
        simp only [hq]
  rw [hF0]
  refine SatD.block ?_
  refine SatD.loop (fun k : Nat => ⟨DM.look [(1, .v (.box [.sl (colsT x.columns), .sl (intsT x.insert), ti x.swap])), (2, .ptr 1003 0), (3, .v (ti n)), (12, .ptr 100013 0), (13, .aref 100378 0), (14, .v (ti k))], obs [(1003, .box [.v (ti 0), .nil0, .nil0]), (100013, .box [.v (ti N), .v (.sl (arcsT al2)), .nil0]), (100378, .arr 0 3 1 (intsT (refFin x k)))], 200000, 1000, []⟩)
    (fun k => k ≤ N) (fun k => N - k) 0 (Le.keep ?_ ?_ ?_ ?_) (by simp) (fun k hk => ?_)
  · simp
  · simp
  · simp
  · simp
  refine SatD.seq ?_
  refine SatD.regSeq hΓ follows [1, 2, 3, 12, 13, 14, 180] ?_
  simp [d14r32, hlenF]
  refine SatD.cond rfl (fun hck => ?_) (fun hck => ?_)
  · simp at hck
    have hrw : DM.rowAt (intsT (refFin x k)) (k : Int) = [ti ((refFin x k).getD k default)] := rowAt_ints (by rw [hlenF]; exact hck)
    have hrw2 : DM.rowAt (intsT ((refFin x k).set k 1099511627776)) (k : Int) = [ti (((refFin x k).set k 1099511627776).getD k default)] := rowAt_ints (by rw [List.length_set, hlenF]; exact hck)
    have hs := hFs k hck
    refine SatD.skip ?_
    simp
    refine SatD.seq ?_
    refine SatD.to ⟨DM.look [(1, .v (.box [.sl (colsT x.columns), .sl (intsT x.insert), ti x.swap])), (2, .ptr 1003 0), (3, .v (ti n)), (12, .ptr 100013 0), (13, .aref 100378 0), (14, .v (ti k))], obs [(1003, .box [.v (ti 0), .nil0, .nil0]), (100013, .box [.v (ti N), .v (.sl (arcsT al2)), .nil0]), (100378, .arr 0 3 1 (intsT (refFin x (k + 1))))], 300000, 1000, []⟩ ?_ ?_
    · refine SatD.block ?_
      refine SatD.regSeq hΓ follows [1, 2, 3, 12, 13, 14] ?_
      simp [d14r33, hlenF, hck, hrw]
      rw [show (intsT (refFin x k)).set k [T.int IntKind.i64 1099511627776] = intsT ((refFin x k).set k 1099511627776) from set_ints _ _ _]
      refine SatD.le (Le.keep (o := [(1003, .box [.v (ti 0), .nil0, .nil0]), (100013, .box [.v (ti N), .v (.sl (arcsT al2)), .nil0]), (100378, .arr 0 3 1 (intsT ((refFin x k).set k 1099511627776)))]) (l := [(1, .v (.box [.sl (colsT x.columns), .sl (intsT x.insert), ti x.swap])), (2, .ptr 1003 0), (3, .v (ti n)), (12, .ptr 100013 0), (13, .aref 100378 0), (14, .v (ti k))]) (nxt' := 210000) ?_ ?_ ?_ ?_) ?_
      · simp
      · simp
      · simp
      · simp
      have wm : (k : Int).tmod 2 = k % 2 := tmod2 (by omega)
      have wd : (k : Int).tdiv 2 = ((k / 2 : Nat) : Int) := by rw [tdiv2 (by omega)]; omega
      have ww : IntKind.i64.wrap ((k : Int) % 2) = k % 2 := wrap_id (by omega)
      have ww2 : IntKind.i64.wrap ((k / 2 : Nat) : Int) = ((k / 2 : Nat) : Int) := wrap_id (by omega)
      obtain ⟨h2, hh2⟩ : ∃ h, k / 2 = h := ⟨_, rfl⟩
      rw [hh2] at wd ww2 hs
      refine SatD.regSeq hΓ follows [1, 2, 3, 12, 13, 14, 188] ?_
      simp [d14r34, wm, ww]
      refine SatD.cond rfl (fun h => ?_) (fun h => ?_)
      · simp at h
        have hk2 : k % 2 = 0 := by omega
        rw [if_pos hk2] at hs
        refine SatD.reg hΓ follows [1, 2, 3, 12, 13, 14] ?_
        simp [d14r35, hxe, wd, ww2, hlenF, hck, hrw2]
        refine ⟨⟨h2, n, ⟨rfl, rfl⟩, by omega, by omega⟩, Le.keep ?_ ?_ ?_ ?_⟩
        · simp
        · simp
        · simp [← hs, ← set_ints]
        · simp
      · simp at h
        have hk2 : ¬ k % 2 = 0 := by omega
        rw [if_neg hk2] at hs
        refine SatD.skip ⟨rfl, Le.keep ?_ ?_ ?_ ?_⟩
        · simp
        · simp
        · simp [hs]
        · simp
    · refine SatD.reg hΓ follows [1, 2, 3, 12, 13, 14] ?_
      simp [d14r36]
      rw [wrap_id (by omega)]
      refine ⟨k + 1, Le.keep ?_ ?_ ?_ ?_, by omega, by omega⟩
      · simp
      · simp
      · simp
      · simp
  · simp at hck
    have : k = N := by omega
    subst this
    refine SatD.exit ?_
    simp
    refine SatD.regSeq hΓ follows [2, 12] ?_
    simp [d14r37]
    refine SatD.regSeq hΓ follows [2] ?_
    simp [d14r38]
    refine SatD.ret ?_
    subst hR
    rw [hn, hN, hal1, hal2]
    simp [d14res, Lattice.enc]
    omega
end Go.Proofs
/- The D-machine, part V: plain laws of stable sorting (no program in sight). Conditions: none. -/
namespace Go.DM.Srt
set_option linter.unusedVariables false
set_option linter.unusedSimpArgs false
section
variable {α : Type} (lt : α → α → Bool)

/-- One more element, put behind the last that it is not ahead of; the list lies backwards. -/
def insR (x : α) : List α → List α
  | [] => [x]
  | y :: ys => if lt x y then y :: insR x ys else x :: y :: ys
def isortR (l : List α) : List α := l.foldl (fun acc x => insR lt x acc) []
/-- The stable sort. -/
def isort (l : List α) : List α := (isortR lt l).reverse

variable {lt}
theorem mem_insR (x : α) : ∀ (l : List α) (z : α), z ∈ insR lt x l ↔ z = x ∨ z ∈ l
  | [], z => by simp [insR]
  | y :: ys, z => by
    simp only [insR]
    split
    · simp only [List.mem_cons, mem_insR x ys z]
      constructor
      · rintro (h | h | h) <;> simp [h]
      · rintro (h | h | h) <;> simp [h]
    · simp
theorem foldl_mem : ∀ (l acc : List α) (z : α), z ∈ l.foldl (fun acc x => insR lt x acc) acc ↔ z ∈ l ∨ z ∈ acc
  | [], acc, z => by simp
  | x :: l, acc, z => by
    rw [List.foldl_cons, foldl_mem l, mem_insR]
    simp only [List.mem_cons]
    constructor
    · rintro (h | h | h) <;> simp [h]
    · rintro ((h | h) | h) <;> simp [h]
@[simp] theorem mem_isort (l : List α) (z : α) : z ∈ isort lt l ↔ z ∈ l := by simp [isort, isortR, foldl_mem]
theorem insR_length (x : α) : ∀ l : List α, (insR lt x l).length = l.length + 1
  | [] => rfl
  | y :: ys => by simp only [insR]; split <;> simp [insR_length x ys]
theorem foldl_length : ∀ l acc : List α, (l.foldl (fun acc x => insR lt x acc) acc).length = l.length + acc.length
  | [], acc => by simp
  | x :: l, acc => by rw [List.foldl_cons, foldl_length l, insR_length]; simp; omega
@[simp] theorem isort_length (l : List α) : (isort lt l).length = l.length := by simp [isort, isortR, foldl_length]

end

section
variable {α : Type}
def seg (D : List α) (i j : Nat) : List α := (D.drop i).take (j - i)
@[simp] theorem seg_length (D : List α) (i j : Nat) : (seg D i j).length = min (j - i) (D.length - i) := by simp [seg]
@[simp] theorem seg_self (D : List α) (i : Nat) : seg D i i = [] := by simp [seg]

/-- The stable sort of a part. -/
def sortAt (lt : α → α → Bool) (D : List α) (a b : Nat) : List α := D.take a ++ (isort lt (seg D a b) ++ D.drop b)
@[simp] theorem sortAt_length (lt : α → α → Bool) (D : List α) {a b : Nat} (h1 : a ≤ b) (h2 : b ≤ D.length) : (sortAt lt D a b).length = D.length := by
  simp [sortAt]; omega
end
end Go.DM.Srt
/- Insertion sort of keys. Conditions: none. -/
namespace Go.Proofs
open Go.DM Go.DM.Srt
set_option linter.unusedSimpArgs false
set_option linter.unusedVariables false

section
variable (good : List T → Prop) (cmpF : List T → List T → Int)
abbrev ltF (x y : List T) : Bool := decide (cmpF x y < 0)
variable {good cmpF}
theorem dr {n : Nat} {x : List T} (h : x.length = n) : x.drop n = [] := by subst h; simp
theorem tk {n : Nat} {x : List T} (h : x.length = n) : x.take n = x := by subst h; simp

end
end Go.Proofs
/- How long a list may be sorted. Conditions: none. -/
namespace Go.Proofs
open Go.DM Go.DM.Srt
set_option linter.unusedSimpArgs false
set_option linter.unusedVariables false

end Go.Proofs
/- Keys in order: plain laws. Conditions: none. -/
namespace Go.Proofs
open Go.DM Go.DM.Srt
set_option linter.unusedSimpArgs false
set_option linter.unusedVariables false

def keyRow (a : Arc) : List T := [ti a.f, ti a.t, ti a.term]
/-- The numbers in a row. -/
def ints3 (r : List T) : Int × Int × Int := (unti (r.getD 0 (ti 0)), unti (r.getD 1 (ti 0)), unti (r.getD 2 (ti 0)))
/-! the candidates' keys -/
/-- The arc of a key. -/
def look3 (al : List Arc) (r : List T) : Arc := (al.find? (sameKey ⟨(ints3 r).1, (ints3 r).2.1, (ints3 r).2.2, 0, []⟩)).getD default
/-- The arcs in the order of their keys. -/
def sortArcs (al : List Arc) : List Arc := (isort (ltF cmpKey) (al.map keyRow)).map (look3 al)
end Go.Proofs
/- Where the library of sorting lies in this program. Conditions: none. -/
set_option maxRecDepth 100000
namespace Go.Proofs
open Go.Shelf
end Go.Proofs
/- The D-machine, part W: plain laws of the stable sort by blocks. Conditions: none. -/
namespace Go.DM.Srt
set_option linter.unusedVariables false
set_option linter.unusedSimpArgs false
section
variable {α : Type} {lt : α → α → Bool}
end
end Go.DM.Srt
/- The D-machine: slices.SortFunc at rows of whole numbers, out of the kit's shelf. Conditions: none. -/
namespace Go.DM
open Go.RowKit
set_option linter.unusedSimpArgs false
set_option linter.unusedVariables false
set_option linter.unusedSectionVars false
variable [Laid]

/-- A row of k whole numbers. -/
abbrev RowN (k : Nat) : Type := {l : List Int // l.length = k}
instance (k : Nat) : Inhabited (RowN k) := ⟨⟨List.replicate k 0, by simp⟩⟩
end Go.DM
/- Sort of keys: lists of any length, out of the kit's shelf. Conditions: none. -/
namespace Go.Proofs
open Go.DM Go.DM.Srt
set_option linter.unusedSimpArgs false
set_option linter.unusedVariables false

end Go.Proofs
