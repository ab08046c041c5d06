/- The editing of an input: emit, next, read, remove, insert, swap. Conditions: none. -/
import Derived.Test.YtlimlhidndflhaaDoorJ0x
import Derived.Test.YtlimlhidndflhaaDoorBc
import Derived.Test.YtlimlhidndflhaaDoorMe
namespace Go.Proofs
open Go.DM
set_option linter.unusedSimpArgs false
set_option linter.unusedVariables false

theorem setO_ne {f : Obs} {r q : Nat} {o : Ob} (h : r ≠ q) : setO f q o r = f r := by simp [setO, h]
set_option maxRecDepth 20000 in
set_option maxHeartbeats 8000000 in
theorem t74 (x : Input) (m : Nat) (hm : m ≤ 1000000) (hl : x.columns.length ≤ 1000000) : CallsOk Tryd.prog 86 [x.enc, ti m] (.bool (swapOk x m)) := by
  have hΓ := okE
  refine c74.ok (by simp) (initSt_sat ?_)
  simp [Input.enc]
  refine SatD.regSeq hΓ follows [1, 2] ?_
  simp [d74r0]
  refine SatD.le (Le.keep (o := []) (l := [(1, .v (ti m)), (2, .v (.box [.sl (colsT x.columns), .sl (intsT x.insert), ti x.swap]))]) (nxt' := 1200) ?_ ?_ ?_ ?_) ?_
  · simp
  · simp
  · simp
  · simp
  obtain ⟨v, hv⟩ : ∃ v, swapOk x m = v := ⟨_, rfl⟩
  rw [hv]
  unfold swapOk at hv
  have w1 : IntKind.i64.wrap ((m : Int) + 1) = ((m + 1 : Nat) : Int) := by rw [wrap_id (by omega)]; omega
  obtain ⟨m1, hm1⟩ : ∃ k, m + 1 = k := ⟨_, rfl⟩
  rw [hm1] at w1 hv
  refine SatD.regToS hΓ follows [(4, .v (.bool v))] ?_ ?_
  · by_cases q1 : 0 < x.swap
    · by_cases q2 : m1 < x.columns.length
      · have q3 : m < x.columns.length := by omega
        have r1 := rowAt_cols q3
        have r2 := rowAt_cols q2
        obtain ⟨⟨k1, rd1, d1⟩, e1⟩ : ∃ c, x.columns.getD m default = c := ⟨_, rfl⟩
        obtain ⟨⟨k2, rd2, d2⟩, e2⟩ : ∃ c, x.columns.getD m1 default = c := ⟨_, rfl⟩
        rw [e1] at r1 hv
        rw [e2] at r2 hv
        simp only at hv
        by_cases q4 : 0 ≤ k1
        · by_cases q5 : 0 ≤ k2
          · have : v = true := by rw [← hv]; simp [q1, q2, q4, q5]
            simp [d74r1, w1, q1, q2, q3, r1, r2, Column.enc, q4, q5, this]
          · have : v = false := by rw [← hv]; simp [q5]
            simp [d74r1, w1, q1, q2, q3, r1, r2, Column.enc, q4, q5, this]
        · have : v = false := by rw [← hv]; simp [q4]
          simp [d74r1, w1, q1, q2, q3, r1, r2, Column.enc, q4, this]
      · have : v = false := by rw [← hv]; simp [q2]
        simp [d74r1, w1, q1, q2, this]
    · have : v = false := by rw [← hv]; simp [q1]
      simp [d74r1, w1, q1, this]
  refine SatD.ret ?_
  simp [d74res]
set_option maxRecDepth 20000 in
set_option maxHeartbeats 8000000 in
theorem t57 (a b : Int) (ha : -1000000000000000000 ≤ a ∧ a ≤ 1000000000000000000) (hb : -1000000000000000000 ≤ b ∧ b ≤ 1000000000000000000) : CallsOk Tryd.prog 85 [ti a, ti b] (ti (min (a + b) INF)) := by
  have hΓ := okE
  refine c57.ok (by simp) (initSt_sat ?_)
  simp
  refine SatD.regSeq hΓ follows [0, 1] ?_
  simp [d57r0]
  have w1 : IntKind.i64.wrap (a + b) = a + b := wrap_id (by omega)
  refine SatD.regSeq hΓ follows [4] ?_
  simp [d57r1, w1]
  refine SatD.ret ?_
  simp [d57res]

def k978 : List DV → Obs → SRes
  | [.ptr b 0, .v (.int .i64 t)], objs =>
    match objs b with
    | some (.box [.v c1, .v c2, .v c3, .v c4, .aref a v, .v c6]) => match objs a with
      | some (.arr v' e sz rows) => ⟨v = v' ∧ e = 3 ∧ sz = 1 ∧ a ≠ b ∧ rows.length ≤ 1000000 ∧ (∀ r ∈ rows, r.length = 1), .v (.tup []),
          setO (setO objs a (.arr (v + 1) 3 1 (rows ++ [[ti t]]))) b (.box [.v c1, .v c2, .v c3, .v c4, .aref a (v + 1), .v c6])⟩
      | _ => ⟨False, .undef, objs⟩
    | _ => ⟨False, .undef, objs⟩
  | _, objs => ⟨False, .undef, objs⟩

set_option maxHeartbeats 2000000 in
theorem t978 {f0 : Obs} {b a v : Nat} {c1 c2 c3 c4 c6 : T} {t : Int} {rows : List (List T)} {N : Nat} (hN : ∀ r, N ≤ r → f0 r = none) (hb : f0 b = some (.box [.v c1, .v c2, .v c3, .v c4, .aref a v, .v c6])) (ha : f0 a = some (.arr v 3 1 rows))
    (hab : a ≠ b) (hl : rows.length ≤ 1000000) (hr1 : ∀ r ∈ rows, r.length = 1) :
    CallsS Tryd.prog 78 [.ptr b 0, .v (ti t)] f0 ⟨True, .v (.tup []), setO (setO f0 a (.arr (v + 1) 3 1 (rows ++ [[ti t]]))) b (.box [.v c1, .v c2, .v c3, .v c4, .aref a (v + 1), .v c6])⟩ := by
  have hΓ := okE
  refine c978.okC hN (by simp) fun hcl => ?_
  have hbN : b < N := (hcl b _ hb).1
  have haN : a < N := (hcl a _ ha).1
  have hba : b ≠ a := fun e => hab e.symm
  have nb : ∀ k, b ≠ N + k := fun k => by omega
  have na : ∀ k, a ≠ N + k := fun k => by omega
  simp
  refine SatD.regSeq hΓ follows [0, 1, 4] ?_
  simp [d978r0, hb]
  refine SatD.to ⟨DM.look [], over [(b, .box [.v c1, .v c2, .v c3, .v c4, .aref a (v + 1), .v c6]), (a, .arr (v + 1) 3 1 (rows ++ [[ti t]]))] f0, N + 1000, N, []⟩ ?_ (by simp [d978res]; rfl)
  refine SatD.reg hΓ follows [] ?_
  simp [d978r1, hb, ha, hab, hba, nb, na, roomOk, chunk, Nat.add_assoc]
  refine ⟨⟨by omega, by omega⟩, Le.same (l := []) (fun r hr => ?_) (by simp)⟩
  simp [show r ≠ b by omega, show r ≠ a by omega, hN r (by omega)]

structure ES where
  at' : Nat
  out : List Int
  cost : Int
def obA (s : ES) : Ob := .arr s.out.length 3 1 (intsT s.out)
/-- The cells of the state. -/
def stC (x : Input) (m : Nat) (c : Int) (a v : Nat) : Ob := .box [.v (.sl (colsT x.columns)), .v (.sl (intsT x.insert)), .v (ti x.swap), .v (ti m), .aref a v, .v (ti c)]
def k984 : List DV → Obs → SRes
  | [.ptr b 0], objs =>
    match objs b with
    | some (.box [.v (.sl c), _, _, .v (.int .i64 m), _, _]) => ⟨0 ≤ m ∧ m < c.length ∧ c = colsT (decCols c), .v (.tup [.agg ((decCols c).getD m.toNat default).enc, .bool true]), objs⟩
    | _ => ⟨False, .undef, objs⟩
  | _, objs => ⟨False, .undef, objs⟩
set_option maxHeartbeats 2000000 in
theorem t984 {f0 : Obs} {b : Nat} {c2 c3 c5 c6 : DV} {c : List Column} {m : Nat} {N : Nat} (hN : ∀ r, N ≤ r → f0 r = none) (hb : f0 b = some (.box [.v (.sl (colsT c)), c2, c3, .v (ti m), c5, c6])) (hm : m < c.length) :
    CallsS Tryd.prog 84 [.ptr b 0] f0 ⟨True, .v (.tup [.agg (c.getD m default).enc, .bool true]), f0⟩ := by
  have hΓ := okE
  refine c984.okC hN (by simp) fun hcl => ?_
  have hbN : b < N := (hcl b _ hb).1
  have nb : ∀ k, b ≠ N + k := fun k => by omega
  have hrow := rowAt_cols hm
  obtain ⟨⟨kd, rd, dl⟩, ec⟩ : ∃ q, c.getD m default = q := ⟨_, rfl⟩
  rw [ec] at hrow
  rw [ec]
  simp [Column.enc]
  refine SatD.regSeq hΓ follows [0, 2, 3] ?_
  simp [d984r0]
  refine SatD.seq ?_
  refine SatD.regSeq hΓ follows [0, 2, 3, 14] ?_
  simp [d984r1, hb, nb, Nat.add_assoc, hm]
  refine SatD.cond rfl (fun hcc => by simp at hcc; omega) (fun hcc => ?_)
  refine SatD.skip ?_
  simp
  refine SatD.regSeq hΓ follows [2, 3] ?_
  simp [d984r3, hb, nb, Nat.add_assoc, hm, hrow, Column.enc]
  refine SatD.le (Le.keepO (l1 := []) (l := [(2, .v (.box [ti kd, .sl (intsT rd), ti dl])), (3, .v (.bool true))]) (nxt' := N + 100) hcl ?_ ?_ ?_ ?_ ?_) ?_
  · omega
  · simp
  · simp [overKeep]
  · simp [overOk, corOb2]
  · simp
    exact gone_over hcl (by omega) (by simp)
  refine SatD.ret ?_
  simp [d984res]
  rfl
def stepE (x : Input) (s : ES) (k t : Nat) : ES :=
  if k = 1 then ⟨s.at' + 1, s.out ++ [(t : Int)], min (s.cost + readAt x s.at' t) INF⟩
  else if k = 2 then ⟨s.at' + 1, s.out, min (s.cost + delAt x s.at') INF⟩
  else if k = 3 then ⟨s.at', s.out ++ [(t : Int)], min (s.cost + insAt x t) INF⟩
  else ⟨s.at' + 2, s.out ++ [(x.columns.getD (s.at' + 1) default).kind, (x.columns.getD s.at' default).kind], min (s.cost + x.swap) INF⟩
def canE (x : Input) (s : ES) (k t : Nat) : Prop :=
  if k = 1 then s.at' < x.columns.length ∧ t < (x.columns.getD s.at' default).read.length ∧ 0 ≤ readAt x s.at' t ∧ readAt x s.at' t ≤ INF
  else if k = 2 then s.at' < x.columns.length ∧ t = 0 ∧ 0 ≤ delAt x s.at' ∧ delAt x s.at' < INF
  else if k = 3 then t < x.insert.length ∧ 0 ≤ insAt x t ∧ insAt x t ≤ INF
  else t = 0 ∧ swapOk x s.at' = true ∧ 0 ≤ x.swap ∧ x.swap ≤ INF
structure esOk (x : Input) (s : ES) : Prop where
  at' : s.at' ≤ 1000000
  out : s.out.length ≤ 999990
  c0 : 0 ≤ s.cost
  c1 : s.cost ≤ INF
  cols : x.columns.length ≤ 1000000
abbrev eAdd : DM.Spec := specP (fun ts => ∃ a b : Int, ts = [ti a, ti b] ∧ (-1000000000000000000 ≤ a ∧ a ≤ 1000000000000000000) ∧ (-1000000000000000000 ≤ b ∧ b ≤ 1000000000000000000)) (fun | [.int _ a, .int _ b] => ti (min (a + b) INF) | _ => .bool false) true
abbrev eSw : DM.Spec := specP (fun ts => ∃ (x : Input) (m : Nat), ts = [x.enc, ti m] ∧ m ≤ 1000000 ∧ x.columns.length ≤ 1000000) (fun | [x, .int _ m] => .bool (swapOk (decX x) m.toNat) | _ => .bool false) true
theorem okSt : EnvOk Tryd.prog (envOf [(84, specS k984), (78, specS k978), (85, eAdd), (86, eSw)]) := by
  refine EnvOk.consS (EnvOk.consS (EnvOk.cons (EnvOk.cons EnvOk.nil ?_) ?_) ?_) ?_
  · rintro ts ⟨x, m, rfl, h1, h2⟩
    exact ⟨by simpa using t74 x m h1 h2, fun _ => rfl⟩
  · rintro ts ⟨a, b, rfl, h1, h2⟩
    exact ⟨by simpa using t57 a b h1 h2, fun _ => rfl⟩
  · intro args objs h
    unfold k978 at h ⊢
    split at h
    · rename_i objs' b t
      split at h
      · rename_i c1 c2 c3 c4 a v c6 hb
        split at h
        · rename_i v' e sz rows ha
          obtain ⟨rfl, rfl, rfl, hab, hl, hr1⟩ := h
          refine ⟨fun N hN => ?_, fun r hr => ?_⟩
          · exact CallsS.of (t978 hN hb ha hab hl hr1) (by simp [hb, ha]) (by simp [hb, ha])
          · simp only [hb, ha]
            have hrb : r ≠ b := fun e => by rw [e, hb] at hr; cases hr
            have hra : r ≠ a := fun e => by rw [e, ha] at hr; cases hr
            rw [setO_ne hrb, setO_ne hra]; exact hr
        · exact h.elim
      · exact h.elim
    · exact h.elim
  · intro args objs h
    unfold k984 at h ⊢
    split at h
    · rename_i objs' b
      split at h
      · rename_i c c2 c3 m c5 c6 hb
        obtain ⟨h1, h2, h3⟩ := h
        obtain ⟨m, rfl⟩ := Int.eq_ofNat_of_zero_le h1
        obtain ⟨cl, hcl⟩ : ∃ cl, decCols c = cl := ⟨_, rfl⟩
        rw [hcl] at h3
        subst h3
        refine ⟨fun N hN => ?_, fun r hr => ?_⟩
        · exact CallsS.of (t984 hN hb (by simpa using h2)) (by simp [hb]) (by simp [hb])
        · simpa [hb] using hr
      · exact h.elim
    · exact h.elim
theorem k984_eq {f : Obs} {b m v a : Nat} {x : Input} {c : Int} (hb : f b = some (stC x m c a v)) : k984 [.ptr b 0] f = ⟨m < x.columns.length, .v (.tup [.agg (x.columns.getD m default).enc, .bool true]), f⟩ := by
  simp [k984, hb, stC]
theorem k978_eq {f : Obs} {b m v a : Nat} {x : Input} {c t : Int} {l : List Int} (hb : f b = some (stC x m c a v)) (ha : f a = some (.arr v 3 1 (intsT l))) (hab : a ≠ b) :
    k978 [.ptr b 0, .v (ti t)] f = ⟨l.length ≤ 1000000, .v (.tup []), setO (setO f a (.arr (v + 1) 3 1 (intsT (l ++ [t])))) b (stC x m c a (v + 1))⟩ := by
  have hr : ∀ r ∈ intsT l, r.length = 1 := by intro r hr; simp only [intsT, List.mem_map] at hr; obtain ⟨_, _, rfl⟩ := hr; rfl
  have e : intsT (l ++ [t]) = intsT l ++ [[ti t]] := by simp [intsT]
  simp only [k978, hb, stC, ha, e, SRes.mk.injEq, and_true, eq_iff_iff, true_and]
  simp [hab, intsT]
end Go.Proofs
/- The editing of an input: read, remove, insert, swap. Conditions: none. -/
namespace Go.Proofs
open Go.DM
set_option linter.unusedSimpArgs false
set_option linter.unusedVariables false

theorem le_st {f0 : Obs} {N nxt nxt' : Nat} {tm : Nat → DV} {l : List (Nat × DV)} {L : List (Nat × Ob)} {b a m v : Nat} {x : Input} {c : Int} {rows : List (List T)} (hcl : Closed f0 N) (hb : b < N) (ha : a < N) (hab : a ≠ b) (hn : N ≤ nxt')
    (hL : ∀ p ∈ L, p.1 = b ∨ p.1 = a ∨ N ≤ p.1) (h1 : over L f0 b = some (stC x m c a v)) (h2 : over L f0 a = some (.arr v 3 1 rows))
    (htm : corTms (over L f0) (over [(b, stC x m c a v), (a, .arr v 3 1 rows)] f0) id tm l) :
    Le ⟨tm, over L f0, nxt, N, []⟩ ⟨DM.look l, over [(b, stC x m c a v), (a, .arr v 3 1 rows)] f0, nxt', N, []⟩ := by
  have hba : b ≠ a := fun e => hab e.symm
  refine Le.keepO hcl hn ?_ ?_ ?_ htm
  · simp; omega
  · have : ∀ (L : List (Nat × Ob)), (∀ p ∈ L, p.1 = b ∨ p.1 = a ∨ N ≤ p.1) → overKeep N [(b, stC x m c a v), (a, .arr v 3 1 rows)] L := by
      intro L
      induction L with
      | nil => intro _; trivial
      | cons q L ih =>
        intro h
        refine ⟨fun hq => ?_, ih fun p hp => h p (by simp [hp])⟩
        rcases h q (by simp) with h | h | h
        · exact ⟨stC x m c a v, by rw [h]; simp⟩
        · exact ⟨.arr v 3 1 rows, by rw [h]; simp⟩
        · omega
    exact this _ hL
  · refine ⟨⟨stC x m c a v, h1, .inr ⟨rfl, fun n hn => ?_⟩, fun _ => sameVer_refl _⟩, ⟨.arr v 3 1 rows, h2, .inr ⟨rfl, fun n hn => by simp [obNames] at hn⟩, fun _ => sameVer_refl _⟩, trivial⟩
    have : n = a := by simpa [stC, obNames, namesL, names] using hn
    subst this
    exact ⟨_, _, h2, by simp [hab], sameVer_refl _⟩
set_option maxRecDepth 20000 in
set_option maxHeartbeats 8000000 in
theorem t980 {f0 : Obs} {b a : Nat} {x : Input} {s : ES} {t : Nat} {N : Nat} (hN : ∀ r, N ≤ r → f0 r = none) (hb : f0 b = some (stC x s.at' s.cost a s.out.length)) (ha : f0 a = some (.arr s.out.length 3 1 (intsT s.out))) (hab : a ≠ b)
    (hs : esOk x s) (hc : canE x s 1 t) :
    CallsS Tryd.prog 80 [.ptr b 0, .v (ti t)] f0 ⟨True, .v (.bool true), setO (setO f0 a (.arr (s.out.length + 1) 3 1 (intsT (s.out ++ [(t : Int)])))) b (stC x (s.at' + 1) (min (s.cost + readAt x s.at' t) INF) a (s.out.length + 1))⟩ := by
  have hΓ := okSt
  refine c980.okC hN (by simp) fun hcl => ?_
  have hbN : b < N := (hcl b _ hb).1
  have haN : a < N := (hcl a _ ha).1
  have hba : b ≠ a := fun e => hab e.symm
  have nb : ∀ k, b ≠ N + k := fun k => by omega
  have na : ∀ k, a ≠ N + k := fun k => by omega
  obtain ⟨m, out, c⟩ := s
  obtain ⟨h1, h2', h3, h4, h5⟩ := hs
  have h2 : out.length ≤ 1000000 := Nat.le_trans h2' (by omega)
  simp only [canE, if_pos] at *
  obtain ⟨q1, q2, q3, q4⟩ := hc
  have erd : readAt x m t = (x.columns.getD m default).read.getD t default := rfl
  obtain ⟨⟨kd, rd, dl⟩, ec⟩ : ∃ q, x.columns.getD m default = q := ⟨_, rfl⟩
  rw [ec] at q2 erd
  simp only at q2 erd
  have rr := rowAt_ints q2
  obtain ⟨g, hg⟩ : ∃ g, readAt x m t = g := ⟨_, rfl⟩
  rw [hg] at erd q3 q4
  rw [← erd] at rr
  rw [hg]
  have rr' : DM.rowAt (intsT rd) (t : Int) = [ti g] := rr
  have ecc : x.columns[m]?.getD default = ⟨kd, rd, dl⟩ := ec
  have ecm : x.columns[m]'q1 = ⟨kd, rd, dl⟩ := by rw [← ecc, List.getElem?_eq_getElem q1]; rfl
  have q5 : ¬ g < 0 := by omega
  have q6 : ¬ (rd.length : Int) ≤ t := by omega
  have hI : INF = 1099511627776 := rfl
  simp
  refine SatD.regSeq hΓ follows [0, 1] ?_
  simp [d980r0]
  refine SatD.regFSeq hΓ follows (rs := d980r1S) rfl (by kernel_rfl) [0, 1, 5, 6] ?_
  simp [d980r1S, k984_eq (x := x) (m := m) (c := c) (a := a) (v := out.length), hb, q1, ecc, ecm, Column.enc]
  refine SatD.le (Le.keepO (l1 := []) (l := [(0, .ptr b 0), (1, .v (ti t)), (5, .v (.box [ti kd, .sl (intsT rd), ti dl])), (6, .v (.bool true))]) (nxt' := N + 1000) hcl ?_ ?_ ?_ ?_ ?_) ?_
  · omega
  · simp
  · simp [overKeep]; omega
  · simp [overOk, corOb2]
  · simp [hb, stC, nb, Nat.add_assoc]
    exact gone_over (l := []) hcl (by omega) (by simp)
  refine SatD.seq ?_
  refine SatD.regToS hΓ follows [(0, .ptr b 0), (1, .v (ti t)), (5, .v (.box [ti kd, .sl (intsT rd), ti dl])), (32, .v (.bool false))] ?_ ?_
  · have q7 : ¬ (t : Int) < 0 := by omega
    simp [d980r2, q5, q6, q2, rr', q7]
  refine SatD.cond rfl (fun hcc => by cases hcc) (fun hcc => ?_)
  refine SatD.skip ?_
  simp
  have w1 : IntKind.i64.wrap ((m : Int) + 1) = ((m + 1 : Nat) : Int) := by rw [wrap_id (by omega)]; omega
  refine SatD.regSeq hΓ follows [0, 1, 5] ?_
  simp [d980r4, hb, stC, w1]
  refine SatD.le (le_st (x := x) (m := m + 1) (c := c) (v := out.length) (rows := intsT out) (l := [(0, .ptr b 0), (1, .v (ti t)), (5, .v (.box [ti kd, .sl (intsT rd), ti dl]))]) (nxt' := N + 2000) hcl hbN haN hab (by omega) ?_ ?_ ?_ ?_) ?_
  · simp
  · simp [stC]
  · simp [hab, ha]
  · simp [stC]
  refine SatD.regFSeq hΓ follows (rs := d980r5S) rfl (by kernel_rfl) [0, 1, 5] ?_
  simp [d980r5S, k978_eq (x := x) (m := m + 1) (c := c) (v := out.length) (l := out) (a := a), hab, h2]
  rw [over_setO, over_setO]
  refine SatD.le (le_st (x := x) (m := m + 1) (c := c) (v := out.length + 1) (rows := intsT (out ++ [(t : Int)])) (l := [(0, .ptr b 0), (1, .v (ti t)), (5, .v (.box [ti kd, .sl (intsT rd), ti dl]))]) (nxt' := N + 3000) hcl hbN haN hab (by omega) ?_ ?_ ?_ ?_) ?_
  · simp
  · simp [stC]
  · simp [hab]
  · simp [stC]
  refine SatD.regSeq hΓ follows [] ?_
  simp [d980r6, stC, q2, rr']
  refine ⟨?_, ?_⟩
  · exact ⟨c, g, ⟨rfl, rfl⟩, ⟨by omega, by omega⟩, by omega, by omega⟩
  refine SatD.le (le_st (x := x) (m := m + 1) (c := min (c + g) INF) (v := out.length + 1) (rows := intsT (out ++ [(t : Int)])) (l := []) (nxt' := N + 4000) hcl hbN haN hab (by omega) ?_ ?_ ?_ ?_) ?_
  · simp
  · simp [stC]
  · simp [hab]
  · simp [stC]
  refine SatD.regSeq hΓ follows [4] ?_
  simp [d980r7]
  refine SatD.ret ?_
  simp [d980res, stC]
  rfl
set_option maxRecDepth 20000 in
set_option maxHeartbeats 8000000 in
theorem t981 {f0 : Obs} {b a : Nat} {x : Input} {s : ES} {t : Nat} {N : Nat} (hN : ∀ r, N ≤ r → f0 r = none) (hb : f0 b = some (stC x s.at' s.cost a s.out.length)) (ha : f0 a = some (.arr s.out.length 3 1 (intsT s.out))) (hab : a ≠ b)
    (hs : esOk x s) (hc : canE x s 2 t) :
    CallsS Tryd.prog 81 [.ptr b 0, .v (ti t)] f0 ⟨True, .v (.bool true), setO f0 b (stC x (s.at' + 1) (min (s.cost + delAt x s.at') INF) a s.out.length)⟩ := by
  have hΓ := okSt
  refine c981.okC hN (by simp) fun hcl => ?_
  have hbN : b < N := (hcl b _ hb).1
  have haN : a < N := (hcl a _ ha).1
  have hba : b ≠ a := fun e => hab e.symm
  have nb : ∀ k, b ≠ N + k := fun k => by omega
  have na : ∀ k, a ≠ N + k := fun k => by omega
  obtain ⟨m, out, c⟩ := s
  obtain ⟨h1, h2', h3, h4, h5⟩ := hs
  have h2 : out.length ≤ 1000000 := Nat.le_trans h2' (by omega)
  simp only [canE, if_pos] at *
  have hI : INF = 1099511627776 := rfl
  rw [if_neg (by omega)] at hc
  obtain ⟨q1, rfl, q3, q4⟩ := hc
  have erd : delAt x m = (x.columns.getD m default).delete := rfl
  obtain ⟨⟨kd, rd, dl⟩, ec⟩ : ∃ q, x.columns.getD m default = q := ⟨_, rfl⟩
  rw [ec] at erd
  simp only at erd
  rw [erd] at q3 q4
  rw [erd]
  have ecc : x.columns[m]?.getD default = ⟨kd, rd, dl⟩ := ec
  have ecm : x.columns[m]'q1 = ⟨kd, rd, dl⟩ := by rw [← ecc, List.getElem?_eq_getElem q1]; rfl
  have q5 : ¬ (1099511627776 : Int) ≤ dl := by omega
  simp
  refine SatD.regSeq hΓ follows [0, 1] ?_
  simp [d981r0]
  refine SatD.regFSeq hΓ follows (rs := d981r1S) rfl (by kernel_rfl) [0, 1, 5, 6] ?_
  simp [d981r1S, k984_eq (x := x) (m := m) (c := c) (a := a) (v := out.length), hb, q1, ecc, ecm, Column.enc]
  refine SatD.le (Le.keepO (l1 := []) (l := [(0, .ptr b 0), (1, .v (ti 0)), (5, .v (.box [ti kd, .sl (intsT rd), ti dl])), (6, .v (.bool true))]) (nxt' := N + 1000) hcl ?_ ?_ ?_ ?_ ?_) ?_
  · omega
  · simp
  · simp [overKeep]; omega
  · simp [overOk, corOb2]
  · simp [hb, stC, nb, Nat.add_assoc]
    exact gone_over (l := []) hcl (by omega) (by simp)
  refine SatD.seq ?_
  refine SatD.regToS hΓ follows [(0, .ptr b 0), (5, .v (.box [ti kd, .sl (intsT rd), ti dl])), (22, .v (.bool false))] ?_ ?_
  · simp [d981r2, q5]
  refine SatD.cond rfl (fun hcc => by cases hcc) (fun hcc => ?_)
  refine SatD.skip ?_
  simp
  have w1 : IntKind.i64.wrap ((m : Int) + 1) = ((m + 1 : Nat) : Int) := by rw [wrap_id (by omega)]; omega
  refine SatD.regSeq hΓ follows [0, 5] ?_
  simp [d981r4, hb, stC, w1]
  refine SatD.le (le_st (x := x) (m := m + 1) (c := c) (v := out.length) (rows := intsT (out)) (l := [(0, .ptr b 0), (5, .v (.box [ti kd, .sl (intsT rd), ti dl]))]) (nxt' := N + 2000) hcl hbN haN hab (by omega) ?_ ?_ ?_ ?_) ?_
  · simp
  · simp [stC]
  · simp [hab, ha]
  · simp [stC]
  refine SatD.regSeq hΓ follows [] ?_
  simp [d981r5, stC]
  refine ⟨?_, ?_⟩
  · exact ⟨c, dl, ⟨rfl, rfl⟩, ⟨by omega, by omega⟩, by omega, by omega⟩
  refine SatD.le (le_st (x := x) (m := m + 1) (c := min (c + dl) INF) (v := out.length) (rows := intsT (out)) (l := []) (nxt' := N + 4000) hcl hbN haN hab (by omega) ?_ ?_ ?_ ?_) ?_
  · simp
  · simp [stC]
  · simp [hab, ha]
  · simp [stC]
  refine SatD.regSeq hΓ follows [4] ?_
  simp [d981r6]
  refine SatD.ret ?_
  simp [d981res, stC]
  show setO (setO f0 a _) b _ = _
  rw [setO_self' ha]
set_option maxRecDepth 20000 in
set_option maxHeartbeats 8000000 in
theorem t982 {f0 : Obs} {b a : Nat} {x : Input} {s : ES} {t : Nat} {N : Nat} (hN : ∀ r, N ≤ r → f0 r = none) (hb : f0 b = some (stC x s.at' s.cost a s.out.length)) (ha : f0 a = some (.arr s.out.length 3 1 (intsT s.out))) (hab : a ≠ b)
    (hs : esOk x s) (hc : canE x s 3 t) :
    CallsS Tryd.prog 82 [.ptr b 0, .v (ti t)] f0 ⟨True, .v (.bool true), setO (setO f0 a (.arr (s.out.length + 1) 3 1 (intsT (s.out ++ [(t : Int)])))) b (stC x s.at' (min (s.cost + insAt x t) INF) a (s.out.length + 1))⟩ := by
  have hΓ := okSt
  refine c982.okC hN (by simp) fun hcl => ?_
  have hbN : b < N := (hcl b _ hb).1
  have haN : a < N := (hcl a _ ha).1
  have hba : b ≠ a := fun e => hab e.symm
  have nb : ∀ k, b ≠ N + k := fun k => by omega
  have na : ∀ k, a ≠ N + k := fun k => by omega
  obtain ⟨m, out, c⟩ := s
  obtain ⟨h1, h2', h3, h4, h5⟩ := hs
  have h2 : out.length ≤ 1000000 := Nat.le_trans h2' (by omega)
  simp only [canE, if_pos] at *
  have hI : INF = 1099511627776 := rfl
  rw [if_neg (by omega), if_neg (by omega)] at hc
  obtain ⟨q2, q3, q4⟩ := hc
  have rr := rowAt_ints q2
  have erd : insAt x t = x.insert.getD t default := rfl
  obtain ⟨g, hg⟩ : ∃ g, insAt x t = g := ⟨_, rfl⟩
  rw [hg] at erd q3 q4
  rw [← erd] at rr
  rw [hg]
  have rr' : DM.rowAt (intsT x.insert) (t : Int) = [ti g] := rr
  have q6 : ¬ (x.insert.length : Int) ≤ t := by omega
  have q7 : ¬ (t : Int) < 0 := by omega
  simp
  refine SatD.regSeq hΓ follows [0, 1] ?_
  simp [d982r0]
  refine SatD.seq ?_
  refine SatD.regToS hΓ follows [(0, .ptr b 0), (1, .v (ti t)), (16, .v (.bool false))] ?_ ?_
  · simp [d982r1, hb, stC, q6, q7]
  refine SatD.cond rfl (fun hcc => by cases hcc) (fun hcc => ?_)
  refine SatD.skip ?_
  simp
  refine SatD.regFSeq hΓ follows (rs := d982r3S) rfl (by kernel_rfl) [0, 1] ?_
  simp [d982r3S, k978_eq (x := x) (m := m) (c := c) (v := out.length) (l := out) (a := a), hab, h2, hb, ha]
  rw [over_setO, over_setO]
  refine SatD.le (le_st (x := x) (m := m) (c := c) (v := out.length + 1) (rows := intsT (out ++ [(t : Int)])) (l := [(0, .ptr b 0), (1, .v (ti t))]) (nxt' := N + 3000) hcl hbN haN hab (by omega) ?_ ?_ ?_ ?_) ?_
  · simp
  · simp [stC]
  · simp [hab, ha]
  · simp [stC]
  refine SatD.regSeq hΓ follows [] ?_
  simp [d982r4, stC, q2, rr']
  refine ⟨?_, ?_⟩
  · exact ⟨c, g, ⟨rfl, rfl⟩, ⟨by omega, by omega⟩, by omega, by omega⟩
  refine SatD.le (le_st (x := x) (m := m) (c := min (c + g) INF) (v := out.length + 1) (rows := intsT (out ++ [(t : Int)])) (l := []) (nxt' := N + 4000) hcl hbN haN hab (by omega) ?_ ?_ ?_ ?_) ?_
  · simp
  · simp [stC]
  · simp [hab, ha]
  · simp [stC]
  refine SatD.regSeq hΓ follows [4] ?_
  simp [d982r5]
  refine SatD.ret ?_
  simp [d982res, stC]
  rfl
set_option maxRecDepth 20000 in
set_option maxHeartbeats 8000000 in
theorem t983 {f0 : Obs} {b a : Nat} {x : Input} {s : ES} {t : Nat} {N : Nat} (hN : ∀ r, N ≤ r → f0 r = none) (hb : f0 b = some (stC x s.at' s.cost a s.out.length)) (ha : f0 a = some (.arr s.out.length 3 1 (intsT s.out))) (hab : a ≠ b)
    (hs : esOk x s) (hc : canE x s 4 t) :
    CallsS Tryd.prog 83 [.ptr b 0, .v (ti t)] f0 ⟨True, .v (.bool true), setO (setO f0 a (.arr (s.out.length + 2) 3 1 (intsT (s.out ++ [(x.columns.getD (s.at' + 1) default).kind, (x.columns.getD s.at' default).kind])))) b (stC x (s.at' + 2) (min (s.cost + x.swap) INF) a (s.out.length + 2))⟩ := by
  have hΓ := okSt
  refine c983.okC hN (by simp) fun hcl => ?_
  have hbN : b < N := (hcl b _ hb).1
  have haN : a < N := (hcl a _ ha).1
  have hba : b ≠ a := fun e => hab e.symm
  have nb : ∀ k, b ≠ N + k := fun k => by omega
  have na : ∀ k, a ≠ N + k := fun k => by omega
  obtain ⟨m, out, c⟩ := s
  obtain ⟨h1, h2', h3, h4, h5⟩ := hs
  have h2 : out.length ≤ 1000000 := Nat.le_trans h2' (by omega)
  simp only [canE, if_pos] at *
  have hI : INF = 1099511627776 := rfl
  rw [if_neg (by omega), if_neg (by omega), if_neg (by omega)] at hc
  obtain ⟨rfl, q2, q3, q4⟩ := hc
  have q1 := swapOk_lt q2
  have q1' : m < x.columns.length := by omega
  have r1 := rowAt_cols q1
  have r2 := rowAt_cols q1'
  obtain ⟨⟨k1, rd1, dl1⟩, ec1⟩ : ∃ q, x.columns.getD m default = q := ⟨_, rfl⟩
  obtain ⟨⟨k2, rd2, dl2⟩, ec2⟩ : ∃ q, x.columns.getD (m + 1) default = q := ⟨_, rfl⟩
  rw [ec2] at r1
  rw [ec1] at r2
  rw [ec1, ec2]
  have r1' : DM.rowAt (colsT x.columns) ((m : Int) + 1) = (⟨k2, rd2, dl2⟩ : Column).enc := by simpa using r1
  obtain ⟨xt, hxt⟩ : ∃ xt, x.enc = xt := ⟨_, rfl⟩
  have hxe : T.agg [.sl (colsT x.columns), .sl (intsT x.insert), ti x.swap] = xt := hxt
  have hxd : decX xt = x := by rw [← hxt]; simp
  have hpre : ∃ (x2 : Input) (m2 : Nat), (xt = x2.enc ∧ (m : Int) = m2) ∧ m2 ≤ 1000000 ∧ x2.columns.length ≤ 1000000 := ⟨x, m, ⟨hxt.symm, rfl⟩, h1, h5⟩
  have w1 : IntKind.i64.wrap ((m : Int) + 1) = (m : Int) + 1 := wrap_id (by omega)
  have w2 : IntKind.i64.wrap ((m : Int) + 2) = ((m + 2 : Nat) : Int) := by rw [wrap_id (by omega)]; omega
  have q5 : (m : Int) + 1 < x.columns.length := by omega
  have q6 : 0 ≤ (m : Int) + 1 := by omega
  simp
  refine SatD.regSeq hΓ follows [0, 1] ?_
  simp [d983r0]
  refine SatD.seq ?_
  refine SatD.regToS hΓ follows [(0, .ptr b 0), (18, .v (.bool false))] ?_ ?_
  · simp [d983r1, hb, stC, hxe, hxd, q2]
    exact hpre
  refine SatD.cond rfl (fun hcc => by cases hcc) (fun hcc => ?_)
  refine SatD.skip ?_
  simp
  refine SatD.regASeq hΓ follows (rs := d983r3S) (.inr ⟨_, rfl⟩) (by kernel_rfl) [0] ?_
  have hb2 : f0 b = some (.box [.v (.sl (colsT x.columns)), .v (.sl (intsT x.insert)), .v (ti x.swap), .v (ti m), .aref a out.length, .v (ti c)]) := hb
  have hk := k978_eq (f := over [] f0) (t := k2) (x := x) (m := m) (c := c) (v := out.length) (l := out) (a := a) hb ha hab
  simp [d983r3S, hk, h2, hb2, w1, r1', q5, q6, Column.enc]
  rw [over_setO, over_setO]
  refine SatD.le (le_st (x := x) (m := m) (c := c) (v := out.length + 1) (rows := intsT (out ++ [k2])) (l := [(0, .ptr b 0)]) (nxt' := N + 3000) hcl hbN haN hab (by omega) ?_ ?_ ?_ ?_) ?_
  · simp
  · simp [stC]
  · simp [hab, ha]
  · simp [stC]
  have hb3 : over [(b, stC x m c a (out.length + 1)), (a, .arr (out.length + 1) 3 1 (intsT (out ++ [k2])))] f0 b = some (.box [.v (.sl (colsT x.columns)), .v (.sl (intsT x.insert)), .v (ti x.swap), .v (ti m), .aref a (out.length + 1), .v (ti c)]) := by simp [stC]
  have hk := k978_eq (f := over [(b, stC x m c a (out.length + 1)), (a, .arr (out.length + 1) 3 1 (intsT (out ++ [k2])))] f0) (t := k1) (x := x) (m := m) (c := c) (v := out.length + 1) (l := out ++ [k2]) (a := a) (b := b) (by simp) (by simp [hab]) hab
  obtain ⟨F, hF⟩ : ∃ F, over [(b, stC x m c a (out.length + 1)), (a, .arr (out.length + 1) 3 1 (intsT (out ++ [k2])))] f0 = F := ⟨_, rfl⟩
  rw [hF] at hb3 hk
  rw [hF]
  have h2'' : out.length + 1 ≤ 1000000 := by omega
  refine SatD.regASeq hΓ follows (rs := d983r4S) (.inr ⟨_, rfl⟩) (by kernel_rfl) [0] ?_
  simp [d983r4S, hk, h2'', hb3, r2, q1', Column.enc]
  rw [← hF, over_setO, over_setO]
  refine SatD.le (le_st (x := x) (m := m) (c := c) (v := out.length + 2) (rows := intsT (out ++ [k2, k1])) (l := [(0, .ptr b 0)]) (nxt' := N + 5000) hcl hbN haN hab (by omega) ?_ ?_ ?_ ?_) ?_
  · simp
  · simp [stC]
  · simp [hab, ha]
  · simp [stC]
  refine SatD.regSeq hΓ follows [0] ?_
  simp [d983r5, stC, w2]
  refine SatD.le (le_st (x := x) (m := m + 2) (c := c) (v := out.length + 2) (rows := intsT (out ++ [k2, k1])) (l := [(0, .ptr b 0)]) (nxt' := N + 6000) hcl hbN haN hab (by omega) ?_ ?_ ?_ ?_) ?_
  · simp
  · simp [stC]
  · simp [hab, ha]
  · simp [stC]
  refine SatD.regSeq hΓ follows [] ?_
  simp [d983r6, stC]
  refine ⟨?_, ?_⟩
  · exact ⟨c, x.swap, ⟨rfl, rfl⟩, ⟨by omega, by omega⟩, by omega, by omega⟩
  refine SatD.le (le_st (x := x) (m := m + 2) (c := min (c + x.swap) INF) (v := out.length + 2) (rows := intsT (out ++ [k2, k1])) (l := []) (nxt' := N + 7000) hcl hbN haN hab (by omega) ?_ ?_ ?_ ?_) ?_
  · simp
  · simp [stC]
  · simp [hab, ha]
  · simp [stC]
  refine SatD.regSeq hΓ follows [4] ?_
  simp [d983r7]
  refine SatD.ret ?_
  simp [d983res, stC]
  rfl
end Go.Proofs
/- The editing of an input: run, Apply, Cost. Conditions: none. -/
namespace Go.Proofs
open Go.DM
set_option linter.unusedSimpArgs false
set_option linter.unusedVariables false

def decS (objs : Obs) (b : Nat) : Input × ES × Nat :=
  match objs b with
  | some (.box [.v (.sl c), .v (.sl i), .v (.int .i64 w), .v (.int .i64 m), .aref a _, .v (.int .i64 q)]) =>
    (⟨decCols c, decInts i, w⟩, ⟨m.toNat, (match objs a with | some (.arr _ _ _ rows) => decInts rows | _ => []), q⟩, a)
  | _ => (⟨[], [], 0⟩, ⟨0, [], 0⟩, 0)
theorem decS_eq {objs : Obs} {b a : Nat} {x : Input} {s : ES} (h : objs b = some (stC x s.at' s.cost a s.out.length)) (ha : objs a = some (obA s)) : decS objs b = (x, s, a) := by
  simp only [decS, h, stC, ha, obA]
  simp
def kE (k : Nat) : List DV → Obs → SRes
  | [.ptr b 0, .v (.int .i64 t)], objs =>
    ⟨0 ≤ t ∧ objs b = some (stC (decS objs b).1 (decS objs b).2.1.at' (decS objs b).2.1.cost (decS objs b).2.2 (decS objs b).2.1.out.length) ∧ objs (decS objs b).2.2 = some (obA (decS objs b).2.1) ∧ (decS objs b).2.2 ≠ b ∧ esOk (decS objs b).1 (decS objs b).2.1 ∧ canE (decS objs b).1 (decS objs b).2.1 k t.toNat,
      .v (.bool true), setO (setO objs (decS objs b).2.2 (obA (stepE (decS objs b).1 (decS objs b).2.1 k t.toNat))) b (stC (decS objs b).1 (stepE (decS objs b).1 (decS objs b).2.1 k t.toNat).at' (stepE (decS objs b).1 (decS objs b).2.1 k t.toNat).cost (decS objs b).2.2 (stepE (decS objs b).1 (decS objs b).2.1 k t.toNat).out.length)⟩
  | _, objs => ⟨False, .undef, objs⟩
theorem kE_eq {objs : Obs} {b a k t : Nat} {x : Input} {s : ES} (h : objs b = some (stC x s.at' s.cost a s.out.length)) (ha : objs a = some (obA s)) (hab : a ≠ b) :
    kE k [.ptr b 0, .v (ti t)] objs = ⟨esOk x s ∧ canE x s k t, .v (.bool true), setO (setO objs a (obA (stepE x s k t))) b (stC x (stepE x s k t).at' (stepE x s k t).cost a (stepE x s k t).out.length)⟩ := by
  simp only [kE, decS_eq h ha, h, ha, Int.toNat_natCast, SRes.mk.injEq, and_true, true_and, eq_iff_iff]
  simp [hab]
theorem kE_ok {f k : Nat} (H : ∀ {f0 : Obs} {b a : Nat} {x : Input} {s : ES} {t : Nat} {N : Nat}, (∀ r, N ≤ r → f0 r = none) → f0 b = some (stC x s.at' s.cost a s.out.length) → f0 a = some (.arr s.out.length 3 1 (intsT s.out)) → a ≠ b → esOk x s → canE x s k t →
    CallsS Tryd.prog f [.ptr b 0, .v (ti t)] f0 ⟨True, .v (.bool true), setO (setO f0 a (obA (stepE x s k t))) b (stC x (stepE x s k t).at' (stepE x s k t).cost a (stepE x s k t).out.length)⟩) :
    ∀ args objs, (kE k args objs).ok → (∀ N, (∀ r, N ≤ r → objs r = none) → CallsS Tryd.prog f args objs (kE k args objs)) ∧ ∀ r, objs r = none → (kE k args objs).objs r = none := by
  intro args objs h
  unfold kE at h ⊢
  split at h
  · rename_i objs' b t
    obtain ⟨h1, hb, ha, hab, hs, hc⟩ := h
    obtain ⟨t, rfl⟩ := Int.eq_ofNat_of_zero_le h1
    refine ⟨fun N hN => ?_, fun r hr => ?_⟩
    · exact CallsS.of (H hN hb ha hab hs hc) rfl rfl
    · simp only
      have hrb : r ≠ b := fun e => by rw [e, hb] at hr; cases hr
      have hra : r ≠ (decS objs b).2.2 := fun e => by rw [e, ha] at hr; cases hr
      rw [setO_ne hrb, setO_ne hra]; exact hr
  · exact h.elim
theorem okRun : EnvOk Tryd.prog (envOf [(80, specS (kE 1)), (81, specS (kE 2)), (82, specS (kE 3)), (83, specS (kE 4))]) := by
  refine EnvOk.consS (EnvOk.consS (EnvOk.consS (EnvOk.consS EnvOk.nil ?_) ?_) ?_) ?_
  · refine kE_ok fun {f0 b a x s t N} hN hb ha hab hs hc => ?_
    have := t983 hN hb ha hab hs hc
    simpa [stepE, obA] using this
  · refine kE_ok fun {f0 b a x s t N} hN hb ha hab hs hc => ?_
    have := t982 hN hb ha hab hs hc
    simpa [stepE, obA] using this
  · refine kE_ok fun {f0 b a x s t N} hN hb ha hab hs hc => ?_
    have := t981 hN hb ha hab hs hc
    have e : setO f0 a (obA s) = f0 := setO_self' ha
    have e2 : stepE x s 2 t = ⟨s.at' + 1, s.out, min (s.cost + delAt x s.at') INF⟩ := rfl
    have e3 : obA (stepE x s 2 t) = obA s := rfl
    rw [e3, e, e2]
    exact this
  · refine kE_ok fun {f0 b a x s t N} hN hb ha hab hs hc => ?_
    have := t980 hN hb ha hab hs hc
    simpa [stepE, obA] using this
def stE (x : Input) (s : ES) (o : Int × Int) : ES := stepE x s o.1.toNat o.2.toNat
def runE (x : Input) (l : List (Int × Int)) : ES := l.foldl (stE x) ⟨0, [], 0⟩
theorem runE_succ (x : Input) {l : List (Int × Int)} {j : Nat} (h : j < l.length) : runE x (l.take (j + 1)) = stE x (runE x (l.take j)) (l.getD j default) := by
  unfold runE
  rw [List.take_add_one, List.getElem?_eq_getElem h, Option.toList_some, List.foldl_append]
  simp [List.getD, h]
/-- Each operation is possible. -/
structure runOkE (x : Input) (l : List (Int × Int)) : Prop where
  st : ∀ j, j ≤ l.length → esOk x (runE x (l.take j))
  kind : ∀ o ∈ l, 1 ≤ o.1 ∧ o.1 ≤ 4 ∧ 0 ≤ o.2
  can : ∀ j, j < l.length → canE x (runE x (l.take j)) (l.getD j default).1.toNat (l.getD j default).2.toNat
  fin : (runE x l).at' = x.columns.length
  len : l.length ≤ 1000000000
def resE (x : Input) (l : List (Int × Int)) : T := .box [.sl (colsT x.columns), .sl (intsT x.insert), ti x.swap, ti (runE x l).at', .sl (intsT (runE x l).out), ti (runE x l).cost]
set_option maxRecDepth 20000 in
set_option maxHeartbeats 8000000 in
theorem t931 (x : Input) (l : List (Int × Int)) (h : runOkE x l) : CallsOk Tryd.prog 31 [x.enc, .sl (opsT l)] (.tup [resE x l, ti 0]) := by
  have hΓ := okRun
  have hlen := h.len
  refine c931.ok (by simp) (initSt_sat ?_)
  simp [Input.enc]
  refine SatD.regSeq hΓ follows [1, 2] ?_
  simp [d931r0]
  refine SatD.regSeq hΓ follows [1, 2, 6] ?_
  simp [d931r1]
  refine SatD.le (Le.keep (o := [(1060, .box [.v (.sl (colsT x.columns)), .v (.sl (intsT x.insert)), .v (ti x.swap), .v (ti 0), .nil0, .v (ti 0)])]) (l := [(1, .v (.sl (opsT l))), (2, .v (.box [.sl (colsT x.columns), .sl (intsT x.insert), ti x.swap])), (6, .ptr 1060 0)]) (nxt' := 1100) ?_ ?_ ?_ ?_) ?_
  · simp
  · simp
  · simp
  · simp
  refine SatD.le (Le.nilCell 1060 4 3 (sz := 1) (cs := [.v (.sl (colsT x.columns)), .v (.sl (intsT x.insert)), .v (ti x.swap), .v (ti 0), .nil0, .v (ti 0)]) (by omega) (by simp) (by simp)) ?_
  rw [obs_setO, obs_setO]
  refine SatD.seq ?_
  refine SatD.regSeq hΓ follows [2, 6, 12, 13, 14] ?_
  simp [d931r2]
  refine SatD.block ?_
  refine SatD.loop (fun i : Nat => ⟨DM.look [(2, .v (.box [.sl (colsT x.columns), .sl (intsT x.insert), ti x.swap])), (6, .ptr 1060 0), (12, .v (.sl (opsT l))), (13, .v (ti l.length)), (14, .v (ti i))], obs [(1060, stC x (runE x (l.take i)).at' (runE x (l.take i)).cost 1100 (runE x (l.take i)).out.length), (1100, obA (runE x (l.take i)))], 2000, 1000, []⟩)
    (fun i => i ≤ l.length) (fun i => l.length - i) 0 (Le.keep ?_ ?_ ?_ ?_) (by simp) (fun i hi => ?_)
  · simp
  · simp
  · simp [runE, stC, obA, intsT]
  · simp [stC]
  refine SatD.regSeq hΓ follows [2, 6, 12, 13, 14, 15] ?_
  simp [d931r3]
  refine SatD.seq ?_
  refine SatD.cond rfl (fun hcc => ?_) (fun hcc => ?_)
  · simp at hcc
    refine SatD.skip ?_
    simp
    have hrow := rowAt_ops hcc
    have hst := h.st i (by omega)
    have hcan := h.can i hcc
    have hsucc := runE_succ x hcc
    obtain ⟨hk1, hk4, ht0⟩ := h.kind (l.getD i default) (by rw [List.getD, List.getElem?_eq_getElem hcc]; exact List.getElem_mem hcc)
    obtain ⟨⟨k, t⟩, ho⟩ : ∃ o, l.getD i default = o := ⟨_, rfl⟩
    rw [ho] at hrow hcan hsucc hk1 hk4 ht0
    simp only at hcan hk1 hk4 ht0
    obtain ⟨t, rfl⟩ := Int.eq_ofNat_of_zero_le ht0
    simp only [stE, Int.toNat_natCast] at hsucc hcan
    obtain ⟨s, hs⟩ : ∃ s, runE x (l.take i) = s := ⟨_, rfl⟩
    rw [hs] at hst hcan hsucc
    rw [hs]
    refine SatD.seq ?_
    refine SatD.block ?_
    refine SatD.regSeq hΓ follows [2, 6, 8, 12, 13, 14] ?_
    simp [d931r4, hrow, hcc]
    refine SatD.le (Le.keep (o := [(1060, stC x s.at' s.cost 1100 s.out.length), (1100, obA s)]) (l := [(2, .v (.box [.sl (colsT x.columns), .sl (intsT x.insert), ti x.swap])), (6, .ptr 1060 0), (8, .v (.box [ti k, ti t])), (12, .v (.sl (opsT l))), (13, .v (ti l.length)), (14, .v (ti i))]) (nxt' := 3000) ?_ ?_ ?_ ?_) ?_
    · simp
    · simp
    · simp [stC, obA]
    · simp [stC]
    obtain ⟨s', hs'⟩ : ∃ s', stepE x s k.toNat t = s' := ⟨_, rfl⟩
    rw [hs'] at hsucc
    have hkk : k = 1 ∨ k = 2 ∨ k = 3 ∨ k = 4 := by omega
    refine SatD.regToSeq hΓ follows [(2, .v (.box [.sl (colsT x.columns), .sl (intsT x.insert), ti x.swap])), (6, .ptr 1060 0), (12, .v (.sl (opsT l))), (13, .v (ti l.length)), (14, .v (ti i)), (36, .v (.bool false))] (obs [(1060, stC x s'.at' s'.cost 1100 s'.out.length), (1100, obA s'), (1060, stC x s.at' s.cost 1100 s.out.length), (1100, obA s)]) ?_ ?_
    · obtain ⟨F, hF⟩ : ∃ F, obs [(1060, stC x s.at' s.cost 1100 s.out.length), (1100, obA s)] = F := ⟨_, rfl⟩
      have hb : F 1060 = some (stC x s.at' s.cost 1100 s.out.length) := by rw [← hF]; simp
      have ha : F 1100 = some (obA s) := by rw [← hF]; simp
      have hk := fun q => kE_eq (k := q) (t := t) hb ha (by omega)
      have hres : setO (setO F 1100 (obA s')) 1060 (stC x s'.at' s'.cost 1100 s'.out.length) = obs [(1060, stC x s'.at' s'.cost 1100 s'.out.length), (1100, obA s'), (1060, stC x s.at' s.cost 1100 s.out.length), (1100, obA s)] := by rw [← hF]; rfl
      rw [hF]
      rcases hkk with rfl | rfl | rfl | rfl
      · have hs1 : stepE x s 1 t = s' := hs'
        have hc1 : canE x s 1 t := hcan
        simp [d931r5, hk, hs1, hst, hc1, hres]
      · have hs1 : stepE x s 2 t = s' := hs'
        have hc1 : canE x s 2 t := hcan
        simp [d931r5, hk, hs1, hst, hc1, hres]
      · have hs1 : stepE x s 3 t = s' := hs'
        have hc1 : canE x s 3 t := hcan
        simp [d931r5, hk, hs1, hst, hc1, hres]
      · have hs1 : stepE x s 4 t = s' := hs'
        have hc1 : canE x s 4 t := hcan
        simp [d931r5, hk, hs1, hst, hc1, hres]
    refine SatD.cond rfl (fun hcc => by cases hcc) (fun hcc => ?_)
    refine SatD.skip ?_
    simp
    refine SatD.reg hΓ follows [2, 6, 12, 13, 14] ?_
    simp [d931r7]
    rw [wrap_id (by omega)]
    refine ⟨i + 1, Le.keep ?_ ?_ ?_ ?_, by omega, by omega⟩
    · simp
    · simp
    · simp [hsucc, stC, obA]
    · simp [hsucc, stC]
  · simp at hcc
    have hil : i = l.length := by omega
    subst hil
    refine SatD.exit ?_
    simp
    have hfin := h.fin
    refine SatD.seq ?_
    refine SatD.regToS hΓ follows [(6, .ptr 1060 0), (45, .v (.bool false))] ?_ ?_
    · simp [d931r8, stC, hfin]
    refine SatD.cond rfl (fun hcc => by cases hcc) (fun hcc => ?_)
    refine SatD.skip ?_
    simp
    refine SatD.regSeq hΓ follows [4, 5] ?_
    simp [d931r10]
    obtain ⟨s, hs⟩ : ∃ s, runE x l = s := ⟨_, rfl⟩
    simp only [resE, hs]
    refine SatD.le (Le.keep (o := [(1060, .box [.v (.sl (colsT x.columns)), .v (.sl (intsT x.insert)), .v (ti x.swap), .v (ti s.at'), .v (.sl (intsT s.out)), .v (ti s.cost)])]) (l := [(4, .ptr 1060 0), (5, .v (ti 0))]) (nxt' := 3000) ?_ ?_ ?_ ?_) ?_
    · simp
    · simp
    · simp [stC, obA]
    · simp [stC]
    refine SatD.le (Le.keep (o := []) (l := [(4, .v (.box [.sl (colsT x.columns), .sl (intsT x.insert), ti x.swap, ti s.at', .sl (intsT s.out), ti s.cost])), (5, .v (ti 0))]) (nxt' := 4000) ?_ ?_ ?_ ?_) ?_
    · simp
    · simp
    · simp
    · simp
    refine SatD.ret ?_
    simp [d931res]

abbrev eRun : DM.Spec := specP (fun ts => ∃ (x : Input) (l : List (Int × Int)), ts = [x.enc, .sl (opsT l)] ∧ runOkE x l) (fun | [x, .sl l] => .tup [resE (decX x) (decOps l), ti 0] | _ => .bool false) false
theorem okAp : EnvOk Tryd.prog (envOf [(31, eRun)]) := by
  refine EnvOk.cons EnvOk.nil ?_
  rintro ts ⟨x, l, rfl, h⟩
  exact ⟨by simpa using t931 x l h, fun h => by cases h⟩
set_option maxRecDepth 20000 in
set_option maxHeartbeats 8000000 in
theorem t912 (x : Input) (l : List (Int × Int)) (h : runOkE x l) : CallsOk Tryd.prog 12 [x.enc, .sl (opsT l)] (.tup [.sl (intsT (runE x l).out), ti 0]) := by
  have hΓ := okAp
  refine c912.ok (by simp) (initSt_sat ?_)
  obtain ⟨xt, hxt⟩ : ∃ t, x.enc = t := ⟨_, rfl⟩
  have hxe : T.agg [.sl (colsT x.columns), .sl (intsT x.insert), ti x.swap] = xt := hxt
  have hxd : decX xt = x := by rw [← hxt]; simp
  have hpre : ∃ (x2 : Input) (l2 : List (Int × Int)), (xt = x2.enc ∧ opsT l = opsT l2) ∧ runOkE x2 l2 := ⟨x, l, ⟨hxt.symm, rfl⟩, h⟩
  skip
  simp [Input.enc]
  refine SatD.regSeq hΓ follows [1, 2] ?_
  simp [d912r0]
  refine SatD.regSeq hΓ follows [6, 7] ?_
  simp [d912r1, hxe, hxd, resE]
  refine ⟨hpre, ?_⟩
  refine SatD.seq ?_
  refine SatD.regSeq hΓ follows [6, 7, 15] ?_
  simp [d912r2]
  refine SatD.cond rfl (fun hcc => by cases hcc) (fun hcc => ?_)
  refine SatD.skip ?_
  simp
  refine SatD.regSeq hΓ follows [4, 5] ?_
  simp [d912r4]
  refine SatD.ret ?_
  simp [d912res]
set_option maxRecDepth 20000 in
set_option maxHeartbeats 8000000 in
theorem t913 (x : Input) (l : List (Int × Int)) (h : runOkE x l) : CallsOk Tryd.prog 13 [x.enc, .sl (opsT l)] (.tup [ti (runE x l).cost, ti 0]) := by
  have hΓ := okAp
  refine c913.ok (by simp) (initSt_sat ?_)
  obtain ⟨xt, hxt⟩ : ∃ t, x.enc = t := ⟨_, rfl⟩
  have hxe : T.agg [.sl (colsT x.columns), .sl (intsT x.insert), ti x.swap] = xt := hxt
  have hxd : decX xt = x := by rw [← hxt]; simp
  have hpre : ∃ (x2 : Input) (l2 : List (Int × Int)), (xt = x2.enc ∧ opsT l = opsT l2) ∧ runOkE x2 l2 := ⟨x, l, ⟨hxt.symm, rfl⟩, h⟩
  skip
  simp [Input.enc]
  refine SatD.regSeq hΓ follows [1, 2] ?_
  simp [d913r0]
  refine SatD.regSeq hΓ follows [6, 7] ?_
  simp [d913r1, hxe, hxd, resE]
  refine ⟨hpre, ?_⟩
  refine SatD.seq ?_
  refine SatD.regSeq hΓ follows [6, 7, 15] ?_
  simp [d913r2]
  refine SatD.cond rfl (fun hcc => by cases hcc) (fun hcc => ?_)
  refine SatD.skip ?_
  simp
  refine SatD.regSeq hΓ follows [4, 5] ?_
  simp [d913r4]
  refine SatD.ret ?_
  simp [d913res]
end Go.Proofs
