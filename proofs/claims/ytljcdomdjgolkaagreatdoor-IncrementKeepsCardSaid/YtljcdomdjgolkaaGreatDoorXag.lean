/- The D-machine, part T: loops over iterators, and the iterators. Conditions: none. -/
import Derived.Test.YtljcdomdjgolkaaGreatDoorXaf
import Derived.RangeFuncRecord
import Derived.RangeFuncNested
namespace Go.DM
open Go.RowKit
set_option linter.unusedSimpArgs false
set_option linter.unusedVariables false
set_option linter.unusedSectionVars false
variable [Laid]

/-- The function value f with these captured cells hands these values to a loop's body, one after another, and asks for no end. -/
structure ItOk (P : Program) (f : FuncId) (caps : List T) (tot : List (List T)) : Prop where
  entry : Entry P f
  run : ∀ (l : Nat) (J : (Nat → Prop) → List (List T) → World → Prop) (W : Nat → Prop) (A : World) (vs : Array Value), Yields P l J → J W tot A → RelL A W caps vs.toList → (∀ b, W b → b < A.heap.size) → GOk A W →
    Calls P f (#[.func (.yield l) #[] #[]] ++ vs) A fun e B => (∃ v, e = .returned v) ∧ ∃ W', J W' [] B

/-- The slots of a loop's variables get the values handed over. -/
def setPs (f : Nat → DV) : List Nat → List T → Nat → DV
  | p :: ps, x :: xs => setPs (updT f (some p) (.v x)) ps xs
  | _, _ => f

section
variable {P : Program} {nt : Nat}

theorem setPs_rel {A : World} {W : Nat → Prop} {objs : Obs} {L : Loc} : ∀ (ps : List Nat) (x : List T) (vals : List Value) (f : Nat → DV) (tm : Array Value), (∀ p ∈ ps, p < nt) → tm.size = nt → x.length = ps.length → RelA A (WW W objs L) x vals →
    (∀ t, RelD A W objs L (f t) (tm.getD t Go.undef)) →
    ((ps.zip vals).foldl (fun t (pv : Nat × Value) => t.setIfInBounds pv.1 pv.2) tm).size = nt ∧ ∀ t, RelD A W objs L (setPs f ps x t) (((ps.zip vals).foldl (fun t (pv : Nat × Value) => t.setIfInBounds pv.1 pv.2) tm).getD t Go.undef)
  | [], x, vals, f, tm, _, hs, hl, hr, hf => by
    have : x = [] := List.eq_nil_of_length_eq_zero (by simpa using hl)
    subst this
    exact ⟨by simpa using hs, by simpa [setPs] using hf⟩
  | p :: ps, [], vals, f, tm, _, _, hl, _, _ => by simp at hl
  | p :: ps, y :: x, vals, f, tm, hp, hs, hl, hr, hf => by
    simp only [RelA] at hr
    obtain ⟨v, vs', rfl, h1, h2⟩ := hr
    simp only [List.zip_cons_cons, List.foldl_cons, setPs]
    refine setPs_rel ps x vs' _ _ (fun q hq => hp q (List.mem_cons_of_mem _ hq)) (by simpa using hs) (by simpa using hl) h2 fun t => ?_
    rw [getD_put _ _ _ _ (by rw [hs]; exact hp p (List.mem_cons_self ..))]
    simp only [updT]
    by_cases ht : t = p
    · simp only [ht, if_true, RelD]; exact h1
    · simp only [ht, if_false]; exact hf t

theorem zip_toList (qs : Array Nat) (vals : Array Value) (tm : Array Value) : (qs.zip vals).foldl (fun t (p, v) => t.setIfInBounds p v) tm = (qs.toList.zip vals.toList).foldl (fun t (pv : Nat × Value) => t.setIfInBounds pv.1 pv.2) tm := by
  rw [← Array.foldl_toList, Array.toList_zip]

theorem run_enter {ro : Option Nat} {w : World} {fn : FuncId} {tm : Array Value} {ps : Array Nat} {y z : Code} (hro : ∀ l, ro = some l → ∃ r, w.heap[l]? = some (.loop r)) :
    ∃ (l : Nat) (Ds : List Nat) (W1 : World) (rec : Loop), (Instr.enterLoop fn tm ps y z ro).run P w = .ok (l, Ds.map mark) W1 ∧ BelD w.heap.size w W1 ∧ w.heap.size ≤ l ∧ W1.heap[l]? = some (.loop rec) ∧
      rec.state = .ready ∧ rec.pending = none ∧ rec.fn = fn ∧ rec.tmps = tm ∧ rec.params = ps ∧ rec.assign = y ∧ rec.body = z ∧ Ds.Nodup ∧ (∀ D ∈ Ds, W1.heap[D]? = some (.deferred (some [])) ∧ w.heap.size ≤ D) := by
  cases ro with
  | none =>
    refine ⟨_, [w.heap.size], _, { state := .ready, pending := none, fn, tmps := tm, params := ps, assign := y, body := z, defers := w.heap.size }, run_enterLoop_outer _ _ _ _ _, ?_, by simp, ?_, rfl, rfl, rfl, rfl, rfl, rfl, rfl, by simp, ?_⟩
    · exact ⟨((Below.refl _ w).alloc (Nat.le_refl _) _).alloc (by simp) _, Nat.le_refl _⟩
    · have := World.alloc_heap_new (w.alloc (.deferred (some []))) (.loop { state := .ready, pending := none, fn, tmps := tm, params := ps, assign := y, body := z, defers := w.heap.size })
      rwa [World.size_alloc] at this
    · intro D hD
      simp only [List.mem_singleton] at hD
      subst hD
      exact ⟨(Below.heap_alloc _ _ _ (by simp)).trans (World.alloc_heap_new w _), Nat.le_refl _⟩
  | some l0 =>
    obtain ⟨r0, hr0⟩ := hro l0 rfl
    refine ⟨_, [], _, { state := .ready, pending := none, fn, tmps := tm, params := ps, assign := y, body := z, defers := r0.defers }, run_enterLoop_inner hr0 _ _ _ _ _, ?_, Nat.le_refl _, World.alloc_heap_new w _, rfl, rfl, rfl, rfl, rfl, rfl, rfl, List.nodup_nil, fun D hD => by cases hD⟩
    exact ⟨(Below.refl _ w).alloc (Nat.le_refl _) _, Nat.le_refl _⟩

/-- A loop over an iterator. R: the objects between two rounds, by what has come. -/
theorem SatD.rangeF {Q : Exit → DSt → Prop} {st : DSt} {g : Opd} {ps : List Nat} {as bs : DC} {f : FuncId} {caps : List T} {tot : List (List T)} (hit : ItOk P f caps tot) (hlow : 0 < st.low)
    (hg : g.ev st.tmps = .v (.fn (.func f) caps)) (hlen : ∀ x ∈ tot, x.length = ps.length) (R : List (List T) → Obs) (hR0 : R [] = st.objs) (hRf : ∀ pre r, st.nxt ≤ r → R pre r = none)
    (round : ∀ pre x rest, tot = pre ++ x :: rest → SatD P nt as (fun e s1 => e = .normal ∧ SatD P nt bs (fun e s2 => e = .normal ∧ Le s2 ⟨fun _ => .undef, R (pre ++ [x]), st.nxt, st.nxt, []⟩) s1) ⟨setPs st.tmps ps x, R pre, st.nxt, st.nxt, []⟩)
    (done : Q .normal ⟨st.tmps, R tot, st.nxt, st.low, st.todo⟩) : SatD P nt (.rangeF g ps as bs) Q st := by
  refine ⟨fun c hc => ?_⟩
  obtain ⟨g', qs, y, z, rfl, hg', rfl, hlt, hy, hz⟩ := inv_rangeF hc
  intro n κ a w L gd r
  have hJ : κ.J = none := by
    cases hj : κ.J with
    | none => rfl
    | some J => have := r.it (by rw [hj]; rfl); omega
  obtain ⟨W, base, M, w0, hat, h0⟩ := r.r.ex
  have hat' := hat
  unfold Ctx.At at hat'
  simp only [hJ] at hat'
  obtain ⟨htd, rfl, rfl, rfl, rfl⟩ := hat'
  have hgv := Opd.of_rel h0.o.gl h0.tmps hg'
  rw [hg] at hgv
  simp only [RelD, RelT] at hgv
  obtain ⟨vs, hgv, hcaps⟩ := hgv
  have hle : κ.base ≤ w.heap.size := Nat.le_trans h0.o.fr.size0 h0.o.fr.size
  have hww : ∀ b, WW κ.W st.objs L b → b < w.heap.size := by
    rintro b (hb | ⟨r', o', h1, h2⟩)
    · have := h0.o.under b hb; omega
    · exact (h0.o.ob r' o' h1).lt h2
  refine wpIn_rangeFunc ?_
  intro fn hfn
  obtain ⟨l, Ds0, W1, rec, hent, hb1, hlw, hl1, r1, r2, r3, r4, r5, r6, r7, hnd, hDs⟩ := run_enter (P := P) (ro := κ.ro) (w := w) (fn := fn) (tm := a.tmps) (ps := qs) (y := y) (z := z) (fun l hl => by
    obtain ⟨rc, hrc⟩ := gd.rd l hl
    exact ⟨rc, r.r.adv.keeps.lps l rc hrc⟩)
  obtain ⟨fnE, hfnE, hne, hbo⟩ := hit.entry
  have hDl : ∀ D ∈ Ds0, D ≠ l := fun D hD e => by
    have := (hDs D hD).1
    rw [e, hl1] at this
    cases this
  -- what holds between two rounds
  let J : (Nat → Prop) → List (List T) → World → Prop := fun Wk todo A => ∃ pre L', tot = pre ++ todo ∧ RelO κ.base κ.W κ.M κ.w0 (R pre) A L' ∧ Adv κ.W st.objs L w (R pre) L' A ∧ (∀ b, WW κ.W (R pre) L' b → Wk b) ∧
    A.heap[l]? = some (.loop rec) ∧ (∀ D ∈ Ds0, A.heap[D]? = some (.deferred (some []))) ∧ ∀ b, Wk b → b < A.heap.size
  have hrec : ({ rec with state := .ready, pending := none } : Loop) = rec := by cases rec; simp_all
  have hYield : Yields P l J := by
    refine ⟨?_, ?_⟩
    · rintro Wk todo A B ⟨pre, L', h1, h2, h3, h4, h5, h6, h7⟩ hb
      obtain ⟨hO, hA⟩ := RelO.grow h2 hb
      refine ⟨pre, L', h1, hO, h3.comp hA (fun _ h => .inl h) (fun _ h => h), h4, ?_, fun D hD => ?_, fun b hw => Nat.lt_of_lt_of_le (h7 b hw) hb.size⟩
      · exact (hb.block l (Array.getElem?_eq_some_iff.1 h5).1).trans h5
      · exact (hb.block D (Array.getElem?_eq_some_iff.1 (h6 D hD)).1).trans (h6 D hD)
    · rintro Wk x rest vals A ⟨pre, L', h1, h2, h3, h4, h5, h6, h7⟩ hx
      have hxl : x.length = qs.toList.length := hlen x (by rw [h1]; simp)
      have hvl : vals.size = rec.params.size := by
        have := RelA.length hx
        rw [r5]
        simpa [hxl] using this
      have hyr := run_yield (P := P) (args := vals) h5 hvl
      rw [r3, r4, r5, r6, r7] at hyr
      refine ⟨_, _, _, _, hyr, ?_⟩
      have hleA : κ.base ≤ A.heap.size := Nat.le_trans h2.fr.size0 h2.fr.size
      have hlA := (Array.getElem?_eq_some_iff.1 h5).1
      -- the round's own frame
      have hxW : RelA A (WW κ.W (R pre) L') x vals.toList := by
        have hk := Keeps.refl Wk A
        have conv : ∀ (ts : List T) (vs : List Value), RelA A Wk ts vs → RelA A (WW κ.W (R pre) L') ts vs := fun ts vs h => RelA.keep hk.toKeepsC (fun b _ hb => h4 b hb) ts vs h
        exact conv _ _ hx
      have htm : ∀ t, RelD A κ.W (R pre) L' (st.tmps t) (a.tmps.getD t Go.undef) := fun t => RelD.adv h3 _ _ (h0.tmps t)
      have hps := setPs_rel (nt := nt) qs.toList x vals.toList st.tmps a.tmps hlt h0.size hxl hxW htm
      rw [← zip_toList] at hps
      let κ1 : Ctx := ⟨κ.W, R pre, L', A, κ.base, κ.M, κ.w0, none, some l⟩
      have good1 : κ1.Good P := ⟨fun J hJ => (by cases hJ), fun l' hl' => by cases hl'; exact ⟨rec, h5⟩⟩
      have rel1 : Rel κ1 nt ⟨setPs st.tmps qs.toList x, R pre, st.nxt, st.nxt, []⟩ { tmps := (qs.zip vals).foldl (fun t (p, v) => t.setIfInBounds p v) a.tmps, defers := [] } A L' :=
        ⟨⟨⟨κ.W, κ.base, κ.M, κ.w0, ⟨rfl, rfl, rfl, rfl, rfl⟩, hps.1, hps.2, h2⟩, Adv.refl_of_keeps (Keeps.refl _ _), ⟨[], rfl, List.nodup_nil, (fun _ h => by cases h), fun _ => rfl⟩, fun _ => hleA, ⟨st.nxt, hRf pre⟩⟩, hRf pre, hRf pre, fun h => by cases h⟩
      refine roundIn_of_wpIn trivial ?_
      refine wpIn_mono ((round pre x rest h1).run y hy 0 κ1 _ A L' good1 rel1) ?_
      rintro e a' w' ⟨s1, L1, ⟨rfl, hbody⟩, rel2⟩
      have had1 := rel2.r.adv
      have hl2 : w'.heap[l]? = some (.loop rec) := had1.keeps.lps l rec h5
      have hlw' := (Array.getElem?_eq_some_iff.1 hl2).1
      refine ⟨_, run_beginRound hl2 r1, ?_⟩
      -- the record is busy
      let busy : Loop := { rec with state := .busy }
      let κ2 : Ctx := ⟨κ.W, R pre, L', A.putObj l (.loop busy), κ.base, κ.M, κ.w0, none, some l⟩
      have hsA : (A.putObj l (.loop busy)).heap.size = A.heap.size := by simp [World.putObj]
      have hsw : (w'.putObj l (.loop busy)).heap.size = w'.heap.size := by simp [World.putObj]
      have gA : (A.putObj l (.loop busy)).heap[l]? = some (.loop busy) := World.putObj_heap_same hlA
      have gw' : (w'.putObj l (.loop busy)).heap[l]? = some (.loop busy) := World.putObj_heap_same hlw'
      have oA : ∀ b, b ≠ l → (A.putObj l (.loop busy)).heap[b]? = A.heap[b]? := fun b hb => World.putObj_heap_other hb
      have ow : ∀ b, b ≠ l → (w'.putObj l (.loop busy)).heap[b]? = w'.heap[b]? := fun b hb => World.putObj_heap_other hb
      have hnl : ¬ Obj.plain (.loop rec) := fun e => e
      have good2 : κ2.Good P := ⟨fun J hJ => (by cases hJ), fun l' hl' => by cases hl'; exact ⟨busy, gA⟩⟩
      have hlb : κ.base ≤ l := Nat.le_trans hle hlw
      have adv2 : Adv κ.W (R pre) L' (A.putObj l (.loop busy)) s1.objs L1 (w'.putObj l (.loop busy)) := by
        refine ⟨⟨⟨by rw [hsA, hsw]; exact had1.keeps.size, fun b c e fr hb hn => ?_⟩, fun b hb => ?_, fun b rr hb => ?_⟩, fun b hb hw => ?_, had1.fix, had1.arr, had1.yl⟩
        · have hne : b ≠ l := by rintro rfl; rw [gA] at hb; cases hb
          rw [oA b hne] at hb
          rw [ow b hne]
          exact had1.keeps.blk b c e fr hb hn
        · have hne : b ≠ l := by rintro rfl; rw [gA] at hb; cases hb
          rw [oA b hne] at hb
          rw [ow b hne]
          exact had1.keeps.dfr b hb
        · by_cases hne : b = l
          · subst hne
            rw [gA] at hb
            rw [gw']
            exact hb
          · rw [oA b hne] at hb
            rw [ow b hne]
            exact had1.keeps.lps b rr hb
        · rw [hsA] at hb
          exact had1.sub b hb hw
      have rel3 : Rel κ2 nt s1 a' (w'.putObj l (.loop busy)) L1 := by
        obtain ⟨W2, base2, M2, w02, hat2, h02⟩ := rel2.r.ex
        have hat2' := hat2
        obtain ⟨e0, e1, e2, e3, e4⟩ := hat2
        replace h02 : R0 κ.base κ.W κ.M κ.w0 nt s1.tmps s1.objs a' w' L1 := by rw [e1, e2, e3, e4] at h02; exact h02
        have hkc : KeepsC (WW κ.W s1.objs L1) w' (w'.putObj l (.loop busy)) := ⟨by rw [hsw]; exact Nat.le_refl _, fun b c e fr hb _ => putObj_cells hl2 hnl b _ trivial hb⟩
        obtain ⟨Ds, d1, d2, d3, d4⟩ := rel2.r.defers
        refine ⟨⟨⟨κ.W, κ.base, κ.M, κ.w0, ⟨e0, rfl, rfl, rfl, rfl⟩, h02.size, fun t => (relD_keepC hkc (SizeOf.sizeOf (s1.tmps t) + 1)).1 (s1.tmps t) _ (Nat.lt_succ_self _) (h02.tmps t), relO_put h02.o hl2 hnl hlb⟩, adv2, ⟨Ds, d1, d2, fun D hD => ?_, d4⟩, fun _ => by rw [hsA]; exact hleA, rel2.r.fin⟩, rel2.fresh, rel2.low, fun h => by cases h⟩
        have := d3 D hD
        refine ⟨?_, by rw [hsA]; exact this.2⟩
        rw [ow D (by rintro rfl; rw [hl2] at this; cases this.1)]
        exact this.1
      refine wpIn_mono (hbody.run z hz 0 κ2 a' _ L1 good2 rel3) ?_
      rintro e a3 w3 ⟨s3, L3, ⟨rfl, hLe⟩, rel4⟩
      obtain ⟨L4, rel5⟩ := hLe κ2 nt a3 w3 L3 rel4
      have had4 := rel5.r.adv
      have hl3 : w3.heap[l]? = some (.loop busy) := had4.keeps.lps l busy gA
      have hlw3 := (Array.getElem?_eq_some_iff.1 hl3).1
      have hend := run_endRound (P := P) none hl3
      simp only [Option.isNone_none, if_true] at hend
      have hbr : ({ busy with state := .ready, pending := none } : Loop) = rec := by rw [← hrec]
      rw [hbr] at hend
      refine ⟨_, _, hend, rfl, ?_⟩
      have hs3 : (w3.putObj l (.loop rec)).heap.size = w3.heap.size := by simp [World.putObj]
      have g3 : (w3.putObj l (.loop rec)).heap[l]? = some (.loop rec) := World.putObj_heap_same hlw3
      have o3 : ∀ b, b ≠ l → (w3.putObj l (.loop rec)).heap[b]? = w3.heap[b]? := fun b hb => World.putObj_heap_other hb
      have hnb : ¬ Obj.plain (.loop busy) := fun e => e
      have advR : Adv κ.W (R pre) L' A (R (pre ++ [x])) L4 (w3.putObj l (.loop rec)) := by
        refine ⟨⟨⟨by rw [hs3]; have := had4.keeps.size; rw [hsA] at this; exact this, fun b c e fr hb hn => ?_⟩, fun b hb => ?_, fun b rr hb => ?_⟩, fun b hb hw => ?_, had4.fix, had4.arr, had4.yl⟩
        · have hne : b ≠ l := by rintro rfl; rw [h5] at hb; cases hb
          rw [o3 b hne]
          exact had4.keeps.blk b c e fr (by rw [oA b hne]; exact hb) hn
        · have hne : b ≠ l := by rintro rfl; rw [h5] at hb; cases hb
          rw [o3 b hne]
          exact had4.keeps.dfr b (by rw [oA b hne]; exact hb)
        · by_cases hne : b = l
          · subst hne
            rw [h5] at hb
            rw [g3]
            exact hb
          · rw [o3 b hne]
            exact had4.keeps.lps b rr (by rw [oA b hne]; exact hb)
        · exact had4.sub b (by rw [hsA]; exact hb) hw
      obtain ⟨W5, base5, M5, w05, hat5, h05⟩ := rel5.r.ex
      obtain ⟨_, e1, e2, e3, e4⟩ := hat5
      replace h05 : RelO κ.base κ.W κ.M κ.w0 (R (pre ++ [x])) w3 L4 := by have := h05.o; rw [e1, e2, e3, e4] at this; exact this
      have hO4 : RelO κ.base κ.W κ.M κ.w0 (R (pre ++ [x])) (w3.putObj l (.loop rec)) L4 := relO_put h05 hl3 hnb hlb
      have hle4 : κ.base ≤ (w3.putObj l (.loop rec)).heap.size := Nat.le_trans hO4.fr.size0 hO4.fr.size
      have hww4 : ∀ b, WW κ.W (R (pre ++ [x])) L4 b → b < (w3.putObj l (.loop rec)).heap.size := by
        rintro b (hb | ⟨r', o', q1, q2⟩)
        · have := hO4.under b hb; omega
        · exact (hO4.ob r' o' q1).lt q2
      have hAw : A.heap.size ≤ (w3.putObj l (.loop rec)).heap.size := advR.keeps.size
      refine ⟨fun b => Wk b ∨ WW κ.W (R (pre ++ [x])) L4 b, ⟨pre ++ [x], L4, by rw [h1]; simp, hO4, h3.comp advR (fun _ h => .inl h) (fun _ h => h), fun b hb => .inr hb, g3, fun D hD => advR.keeps.dfr D (h6 D hD), ?_⟩, advR.keeps.mono h4, ?_, fun b hb => .inl hb⟩
      · rintro b (hb | hb)
        · exact Nat.lt_of_lt_of_le (h7 b hb) hAw
        · exact hww4 b hb
      · rintro b (hb | hb)
        · exact ⟨Nat.lt_of_lt_of_le (h7 b hb) hAw, .inl hb⟩
        · refine ⟨hww4 b hb, ?_⟩
          by_cases hlt' : b < A.heap.size
          · exact .inl (h4 b (advR.sub b hlt' hb))
          · exact .inr (by omega)
  obtain ⟨hO1, hA1⟩ := RelO.grow h0.o hb1
  have hJ1 : J (WW κ.W st.objs L) tot W1 := ⟨[], L, rfl, by rw [hR0]; exact hO1, by rw [hR0]; exact hA1, by rw [hR0]; exact fun b hb => hb, hl1, fun D hD => (hDs D hD).1, fun b hb => Nat.lt_of_lt_of_le (hww b hb) hb1.size⟩
  refine ⟨l, Ds0.map mark, W1, { target := .fn (.func f) vs, args := #[.func (.yield l) #[] #[]] }, W1, f, #[.func (.yield l) #[] #[]] ++ vs, W1, hent, ?_, fun _ _ => trivial, ?_, (fun h => by cases h), ?_⟩
  · simp only [resolve, rangeCall, hgv, Deferred.ofValue]
    simp [hgv, Deferred.ofValue, Act.eval]
  · simp [invoke, callFunc, hfnE, hne]
    intro hnone
    simp [hnone] at hbo
  · refine callsIn_wideR ((hit.run l J (WW κ.W st.objs L) W1 vs hYield hJ1 ?_ (fun b hb => Nat.lt_of_lt_of_le (hww b hb) hb1.size) hO1.gl).mono ?_)
    · exact RelL.keep (Keeps.of_below hb1.toBelow (W := WW κ.W st.objs L)).toKeepsC (fun _ _ h => h) _ _ hcaps
    · rintro e B ⟨⟨v, rfl⟩, W', pre, L', h1, h2, h3, h4, h5, h6, h7⟩
      have : pre = tot := by simpa using h1.symm
      subst this
      refine ⟨none, _, by have := run_endLoop (P := P) h5 (by rw [r1]; simp); rw [r2] at this; exact this, ?_⟩
      have hlB := (Array.getElem?_eq_some_iff.1 h5).1
      let off : Loop := { rec with state := .exhausted, pending := none }
      have hnl : ¬ Obj.plain (.loop rec) := fun e => e
      have hlb : κ.base ≤ l := Nat.le_trans hle hlw
      have hsB : (B.putObj l (.loop off)).heap.size = B.heap.size := by simp [World.putObj]
      have oB : ∀ b, b ≠ l → (B.putObj l (.loop off)).heap[b]? = B.heap[b]? := fun b hb => World.putObj_heap_other hb
      have hkc : KeepsC (WW κ.W (R pre) L') B (B.putObj l (.loop off)) := ⟨by rw [hsB]; exact Nat.le_refl _, fun b c e fr hb _ => putObj_cells h5 hnl b _ trivial hb⟩
      have hgw := r.r.adv.keeps.size
      have advT : Adv κ.W κ.go κ.gL κ.gw (R pre) L' (B.putObj l (.loop off)) := by
        have h := r.r.adv.comp h3 (fun _ h => .inl h) (fun _ h => h)
        refine ⟨⟨⟨by rw [hsB]; exact h.keeps.size, fun b c e fr hb hn => putObj_cells h5 hnl b _ trivial (h.keeps.blk b c e fr hb hn)⟩, fun b hb => ?_, fun b rr hb => ?_⟩, h.sub, h.fix, h.arr, h.yl⟩
        · rw [oB b (by have := (Array.getElem?_eq_some_iff.1 hb).1; omega)]
          exact h.keeps.dfr b hb
        · rw [oB b (by have := (Array.getElem?_eq_some_iff.1 hb).1; omega)]
          exact h.keeps.lps b rr hb
      obtain ⟨Ds, d1, d2, d3, d4⟩ := r.r.defers
      refine ⟨_, L', done, ⟨⟨κ.W, κ.base, κ.M, κ.w0, hat, h0.size, fun t => (relD_keepC hkc (SizeOf.sizeOf (st.tmps t) + 1)).1 (st.tmps t) _ (Nat.lt_succ_self _) (RelD.adv h3 _ _ (h0.tmps t)), relO_put h2 h5 hnl hlb⟩, advT, ⟨Ds0 ++ Ds, by rw [List.map_append, ← d1], ?_, fun D hD => ?_, fun h => by rw [hJ] at h; cases h⟩, r.r.bg, ⟨st.nxt, hRf pre⟩⟩, hRf pre, r.low, r.it⟩
      · rw [List.nodup_append]
        refine ⟨hnd, d2, fun D hD D' hD' e => ?_⟩
        subst e
        have k1 := (hDs D hD).2
        have k2 := (Array.getElem?_eq_some_iff.1 (d3 D hD').1).1
        omega
      · rcases List.mem_append.1 hD with hD | hD
        · refine ⟨?_, Nat.le_trans hgw (hDs D hD).2⟩
          rw [oB D (hDl D hD)]
          exact h6 D hD
        · refine ⟨?_, (d3 D hD).2⟩
          have k2 := (Array.getElem?_eq_some_iff.1 (d3 D hD).1).1
          rw [oB D (by omega)]
          exact h3.keeps.dfr D (d3 D hD).1

end

/-! States in normal form, told anew. -/
def corTms (objs objs' : Obs) (σ : Nat → Nat) (tm : Nat → DV) : List (Nat × DV) → Prop
  | [] => True
  | (k, d) :: l => corD objs objs' σ (tm k) d ∧ corTms objs objs' σ tm l
def corObs (objs objs' : Obs) (σ : Nat → Nat) : List (Nat × Ob) → Prop
  | [] => True
  | (r, o) :: l => (∃ o0, objs (σ r) = some o0 ∧ corOb objs objs' σ o0 o) ∧ corObs objs objs' σ l
def keysBelow (n : Nat) : List (Nat × Ob) → Prop
  | [] => True
  | (r, _) :: l => r < n ∧ keysBelow n l
def keysFrom (n : Nat) : List (Nat × Ob) → Prop
  | [] => True
  | (r, _) :: l => n ≤ r ∧ keysFrom n l
/-- The old names of the kept objects are different. -/
def apartK (σ : Nat → Nat) (r : Nat) : List (Nat × Ob) → Prop
  | [] => True
  | (r', _) :: l => (σ r = σ r' → r = r') ∧ apartK σ r l
def apartKs (σ : Nat → Nat) : List (Nat × Ob) → Prop
  | [] => True
  | (r, _) :: l => apartK σ r l ∧ apartKs σ l
theorem obs_mem : ∀ {l : List (Nat × Ob)} {r : Nat} {o : Ob}, obs l r = some o → (r, o) ∈ l
  | [], _, _, h => by cases h
  | (j, x) :: l, r, o, h => by
    simp only [obs] at h
    split at h
    · rename_i e; cases h; subst e; exact List.mem_cons_self ..
    · exact List.mem_cons_of_mem _ (obs_mem h)
theorem obs_key {l : List (Nat × Ob)} {r : Nat} (h : obs l r ≠ none) : ∃ o, (r, o) ∈ l := by
  cases ho : obs l r with
  | none => exact absurd ho h
  | some o => exact ⟨o, obs_mem ho⟩
theorem keysBelow_mem {n : Nat} : ∀ {l : List (Nat × Ob)}, keysBelow n l → ∀ r o, (r, o) ∈ l → r < n
  | [], _, _, _, h => by cases h
  | (j, x) :: l, hk, r, o, h => by
    rcases List.mem_cons.1 h with e | h
    · cases e; exact hk.1
    · exact keysBelow_mem hk.2 r o h
theorem keysFrom_mem {n : Nat} : ∀ {l : List (Nat × Ob)}, keysFrom n l → ∀ r o, (r, o) ∈ l → n ≤ r
  | [], _, _, _, h => by cases h
  | (j, x) :: l, hk, r, o, h => by
    rcases List.mem_cons.1 h with e | h
    · cases e; exact hk.1
    · exact keysFrom_mem hk.2 r o h
theorem corObs_mem {objs objs' : Obs} {σ : Nat → Nat} : ∀ {l : List (Nat × Ob)}, corObs objs objs' σ l → ∀ r o, (r, o) ∈ l → ∃ o0, objs (σ r) = some o0 ∧ corOb objs objs' σ o0 o
  | [], _, _, _, h => by cases h
  | (j, x) :: l, hk, r, o, h => by
    rcases List.mem_cons.1 h with e | h
    · cases e; exact hk.1
    · exact corObs_mem hk.2 r o h
theorem apartK_mem {σ : Nat → Nat} {r : Nat} : ∀ {l : List (Nat × Ob)}, apartK σ r l → ∀ r' o, (r', o) ∈ l → σ r = σ r' → r = r'
  | [], _, _, _, h => by cases h
  | (j, x) :: l, hk, r', o, h => by
    rcases List.mem_cons.1 h with e | h
    · cases e; exact hk.1
    · exact apartK_mem hk.2 r' o h
theorem apartKs_mem {σ : Nat → Nat} : ∀ {l : List (Nat × Ob)}, apartKs σ l → ∀ r1 r2 o1 o2, (r1, o1) ∈ l → (r2, o2) ∈ l → σ r1 = σ r2 → r1 = r2
  | [], _, _, _, _, _, h, _ => by cases h
  | (j, x) :: l, hk, r1, r2, o1, o2, h1, h2 => by
    rcases List.mem_cons.1 h1 with e1 | h1
    · cases e1
      rcases List.mem_cons.1 h2 with e2 | h2
      · cases e2; exact fun _ => rfl
      · exact apartK_mem hk.1 r2 o2 h2
    · rcases List.mem_cons.1 h2 with e2 | h2
      · cases e2; exact fun e => (apartK_mem hk.1 r1 o1 h1 e.symm).symm
      · exact apartKs_mem hk.2 r1 r2 o1 o2 h1 h2
@[simp] theorem gone_obs_nil (σ : Nat → Nat) (r : Nat) : gone (obs []) σ r := fun r' h => by simp [obs] at h
theorem gone_obs {σ : Nat → Nat} {r j : Nat} {o : Ob} {l : List (Nat × Ob)} (h1 : σ j ≠ r) (h2 : gone (obs l) σ r) : gone (obs ((j, o) :: l)) σ r := by
  intro r' hr'
  by_cases hj : r' = j
  · subst hj; exact h1
  · exact h2 r' (by rw [obs_cons, if_neg hj] at hr'; exact hr')

theorem look_cor {objs objs' : Obs} {σ : Nat → Nat} {tm : Nat → DV} : ∀ (l : List (Nat × DV)), corTms objs objs' σ tm l → ∀ k, corD objs objs' σ (tm k) (look l k)
  | [], _, k => by
    show corD objs objs' σ (tm k) .undef
    cases tm k <;> simp [corD]
  | (j, d) :: l, h, k => by
    simp only [look]
    split
    · rename_i e; subst e; exact h.1
    · exact look_cor l h.2 k

/-- The same, of a run that began without objects. -/
theorem Le.corL {tm : Nat → DV} {o0 o : List (Nat × Ob)} {l : List (Nat × DV)} {nxt nxt' : Nat} {td : List (List T)} {low : Nat} (σ : Nat → Nat) (hk0 : keysFrom low o0) (hk : keysBelow nxt' o) (ha : apartKs σ o)
    (hob : corObs (obs o0) (obs o) σ o) (htm : corTms (obs o0) (obs o) σ tm l) : Le ⟨tm, obs o0, nxt, low, td⟩ ⟨look l, obs o, nxt', low, td⟩ := by
  refine Le.cor σ rfl rfl (fun r hr => ?_) (fun r' o' h => corObs_mem hob r' o' (obs_mem h)) (fun r1 r2 h1 h2 e => ?_) (fun r hr o' h => ?_) (fun k => look_cor l htm k)
  · cases ho : obs o r with
    | none => exact ho
    | some x => have := keysBelow_mem hk r x (obs_mem ho); simp only at hr; omega
  · obtain ⟨x1, k1⟩ := obs_key h1
    obtain ⟨x2, k2⟩ := obs_key h2
    exact apartKs_mem ha r1 r2 x1 x2 k1 k2 e
  · have := keysFrom_mem hk0 r o' (obs_mem h)
    simp only at hr
    omega
/-- The same, the names kept. -/
theorem Le.keep {tm : Nat → DV} {o0 o : List (Nat × Ob)} {l : List (Nat × DV)} {nxt nxt' : Nat} {td : List (List T)} {low : Nat} (hk0 : keysFrom low o0) (hk : keysBelow nxt' o)
    (hob : corObs (obs o0) (obs o) id o) (htm : corTms (obs o0) (obs o) id tm l) : Le ⟨tm, obs o0, nxt, low, td⟩ ⟨look l, obs o, nxt', low, td⟩ := by
  refine Le.corL id hk0 hk ?_ hob htm
  clear hk hob htm
  induction o with
  | nil => trivial
  | cons p o ih =>
    refine ⟨?_, ih⟩
    clear ih
    induction o with
    | nil => trivial
    | cons q o ih => exact ⟨fun h => h, ih⟩
attribute [simp] corTms corObs keysBelow keysFrom apartK apartKs corD corDs corPtr corBsl corAref corAptr bundle corOb

/-- These slots hold these values. -/
def allAt (tm : Nat → DV) : List (Nat × DV) → Prop
  | [] => True
  | (k, d) :: l => tm k = d ∧ allAt tm l
theorem allAt_le {tm : Nat → DV} : ∀ {l : List (Nat × DV)}, allAt tm l → ∀ k, look l k = .undef ∨ look l k = tm k
  | [], _, _ => .inl rfl
  | (j, d) :: l, h, k => by
    simp only [look]
    split
    · rename_i e; subst e; exact .inr h.1.symm
    · exact allAt_le h.2 k
section
variable {P : Program} {nt : Nat} {Γ : Env} {Q : Exit → DSt → Prop} {tm : Nat → DV} {ob : Obs} {nxt low : Nat} {td : List (List T)}
/-- A region, told by what it leaves. -/
theorem SatD.regTo (hΓ : EnvOk P Γ) (hm : P.follows .mixedOrders = true) {draw : Bool} {rs : List RO} (l : List (Nat × DV)) (ob' : Obs)
    (h : exec Γ nxt rs ⟨tm, ob, td⟩ fun s => allAt s.tmps l ∧ s.objs = ob' ∧ s.todo = td) (k : Q .normal ⟨look l, ob', nxt + nt + 1, low, td⟩) : SatD P nt (.region draw rs) Q ⟨tm, ob, nxt, low, td⟩ := by
  obtain ⟨h1, h2, h3, h4⟩ := exec_sound _ _ _ h
  refine SatD.mono_le (Q := fun e s => e = .normal ∧ s = ⟨(runSt Γ nxt rs ⟨tm, ob, td⟩).tmps, (runSt Γ nxt rs ⟨tm, ob, td⟩).objs, nxt + nt + 1, low, (runSt Γ nxt rs ⟨tm, ob, td⟩).todo⟩) (SatD.region hΓ hm (st := ⟨tm, ob, nxt, low, td⟩) h1 ⟨rfl, rfl⟩) ?_
  rintro e s ⟨rfl, rfl⟩
  refine ⟨_, Le.slots (allAt_le h2), ?_⟩
  simp only [h3, h4]
  exact k
theorem SatD.regToSeq (hΓ : EnvOk P Γ) (hm : P.follows .mixedOrders = true) {draw : Bool} {rs : List RO} {b : DC} (l : List (Nat × DV)) (ob' : Obs)
    (h : exec Γ nxt rs ⟨tm, ob, td⟩ fun s => allAt s.tmps l ∧ s.objs = ob' ∧ s.todo = td) (k : SatD P nt b Q ⟨look l, ob', nxt + nt + 1, low, td⟩) : SatD P nt (.seq (.region draw rs) b) Q ⟨tm, ob, nxt, low, td⟩ :=
  SatD.seq (SatD.regTo hΓ hm l ob' h k)
/-- The same of a region that writes no object. -/
theorem SatD.regToS (hΓ : EnvOk P Γ) (hm : P.follows .mixedOrders = true) {draw : Bool} {rs : List RO} {b : DC} (l : List (Nat × DV))
    (h : exec Γ nxt rs ⟨tm, ob, td⟩ fun s => allAt s.tmps l ∧ s.objs = ob ∧ s.todo = td) (k : SatD P nt b Q ⟨look l, ob, nxt + nt + 1, low, td⟩) : SatD P nt (.seq (.region draw rs) b) Q ⟨tm, ob, nxt, low, td⟩ :=
  SatD.regToSeq hΓ hm l ob h k
/-- Code that falls out of its end, on every way in one state. -/
theorem SatD.to {d : DC} {st : DSt} (st2 : DSt) (h : SatD P nt d (fun e s => e = .normal ∧ Le s st2) st) (k : Q .normal st2) : SatD P nt d Q st :=
  SatD.mono_le h fun e s ⟨h1, h2⟩ => by subst h1; exact ⟨st2, h2, k⟩
end
attribute [simp] allAt
end Go.DM
/- The D-machine, part U: more rules. Conditions: none. -/
namespace Go.DM
set_option linter.unusedVariables false
open Go.RowKit
set_option linter.unusedSectionVars false
variable [Laid]
section
variable {P : Program} {nt : Nat} {Γ : Env} {Q : Exit → DSt → Prop} {tm : Nat → DV} {ob : Obs} {nxt low : Nat} {td : List (List T)}
/-- A region that writes no object, told by what it leaves. -/
theorem SatD.regToN (hΓ : EnvOk P Γ) (hm : P.follows .mixedOrders = true) {draw : Bool} {rs : List RO} (l : List (Nat × DV))
    (h : exec Γ nxt rs ⟨tm, ob, td⟩ fun s => allAt s.tmps l ∧ s.objs = ob ∧ s.todo = td) (k : Q .normal ⟨look l, ob, nxt + nt + 1, low, td⟩) : SatD P nt (.region draw rs) Q ⟨tm, ob, nxt, low, td⟩ :=
  SatD.regTo hΓ hm l ob h k
end

/-- The objects with one told anew. -/
def setO (f : Obs) (r : Nat) (o : Ob) : Obs := fun k => if k = r then some o else f k
@[simp] theorem putO_setO (f : Obs) (r : Nat) (o o' : Ob) : putO (setO f r o) (some (r, o')) = setO f r o' := by
  funext k
  simp only [putO_some, setO]
  split <;> rfl
@[simp] theorem setO_setO (f : Obs) (r : Nat) (o o' : Ob) : setO (setO f r o) r o' = setO f r o' := by
  funext k
  simp only [setO]
  split <;> rfl
/-- Fewer slots, another next name. -/
theorem Le.same {tm : Nat → DV} {ob : Obs} {nxt nxt' low : Nat} {td : List (List T)} {l : List (Nat × DV)} (h : ∀ r, nxt' ≤ r → ob r = none) (hl : allAt tm l) : Le ⟨tm, ob, nxt, low, td⟩ ⟨look l, ob, nxt', low, td⟩ :=
  Le.trans (Le.slots (allAt_le hl)) fun κ nt a w L r => ⟨L, ⟨r.r, h, r.low, r.it⟩⟩
@[simp] theorem tOfs_map (ob : Obs) : ∀ x : List T, tOfs ob (x.map .v) = x
  | [] => rfl
  | t :: x => by simp [tOfs_map ob x]
@[simp] theorem setO_get (f : Obs) (r : Nat) (o : Ob) : setO f r o r = some o := by simp [setO]
theorem CallsS.of {P : Program} {f : FuncId} {args : List DV} {objs : Obs} {r r' : SRes} (h : CallsS P f args objs r) (h1 : r'.objs = r.objs) (h2 : r'.val = r.val) : CallsS P f args objs r' := by
  obtain ⟨ok, val, ob⟩ := r
  obtain ⟨ok', val', ob'⟩ := r'
  simp only at h1 h2
  subst h1 h2
  exact ⟨h.entry, h.run⟩
end Go.DM
/- The D-machine, part X: a nil slice told as an array without rows. Conditions: none. -/
namespace Go.DM
open Go.RowKit
set_option linter.unusedSimpArgs false
set_option linter.unusedVariables false
set_option linter.unusedSectionVars false
variable [Laid]

def Loc.at (L : Loc) (q : Nat) (x : Value) : Loc := ⟨L.blk, fun k => if k = q then x else L.sl k, L.yl⟩
section
variable {base : Nat} {W M : Nat → Prop} {w0 w : World} {objs : Obs} {L : Loc}
theorem setO_cases {f : Obs} {q : Nat} {o o' : Ob} {r : Nat} (h : setO f q o r = some o') : (r = q ∧ o' = o) ∨ (r ≠ q ∧ f r = some o') := by
  simp only [setO] at h
  split at h
  · rename_i e; exact .inl ⟨e, (Option.some.inj h).symm⟩
  · rename_i e; exact .inr ⟨e, h⟩
theorem setO_of {f : Obs} {q : Nat} {o o' : Ob} {r : Nat} (h : r ≠ q) (k : f r = some o') : setO f q o r = some o' := by
  simp only [setO, if_neg h, k]
theorem own_at {q : Nat} {x : Value} {r : Nat} {o : Ob} (h : r ≠ q) : (L.at q x).own r o = L.own r o := by
  cases o <;> simp [Loc.own, Loc.at, h]
theorem own_nil {q : Nat} {a : Option Addr} {v e sz : Nat} {rows : List (List T)} : (L.at q (.slice a 0 0)).own q (.arr v e sz rows) = none := by
  cases a <;> simp [Loc.own, Loc.at, capBlock]
theorem ww_nil {q : Nat} {a : Option Addr} {e sz : Nat} {b : Nat} (h : WW W (setO objs q (.arr 0 e sz [])) (L.at q (.slice a 0 0)) b) : WW W objs L b := by
  rcases h with h | ⟨r, o, hr, hb⟩
  · exact .inl h
  · rcases setO_cases hr with ⟨rfl, rfl⟩ | ⟨hne, hr⟩
    · rw [own_nil] at hb; cases hb
    · rw [own_at hne] at hb; exact .inr ⟨r, o, hr, hb⟩
theorem nil_adv {q : Nat} {a : Option Addr} {e sz : Nat} (hq : objs q = none) : Adv W objs L w (setO objs q (.arr 0 e sz [])) (L.at q (.slice a 0 0)) w := by
  refine ⟨Keeps.refl _ _, fun b _ h => ww_nil h, fun r o hr hk => ?_, fun r ver e' sz' rows hr => ?_, rfl⟩
  · have hne : r ≠ q := fun h => by rw [h, hq] at hr; cases hr
    exact ⟨rfl, o, setO_of hne hr, rfl⟩
  · have hne : r ≠ q := fun h => by rw [h, hq] at hr; cases hr
    exact ⟨ver, e', sz', rows, setO_of hne hr, Nat.le_refl _, fun _ => ⟨by simp [Loc.at, hne], rfl, rfl⟩⟩
theorem nil_relO (hO : RelO base W M w0 objs w L) {q : Nat} {a : Option Addr} {e sz : Nat} (hsz : 0 < sz) (hq : objs q = none) : RelO base W M w0 (setO objs q (.arr 0 e sz [])) w (L.at q (.slice a 0 0)) := by
  have hA := nil_adv (W := W) (w := w) (L := L) (a := a) (e := e) (sz := sz) hq
  refine ⟨hO.fr, fun r o hr => ?_, fun r r' o o' b hne h1 h2 hb => ?_, fun r o b hr hb => ?_, hO.under, hO.gl.keep hA.keeps.toKeepsC hA.sub⟩
  · rcases setO_cases hr with ⟨rfl, rfl⟩ | ⟨hne, hr⟩
    · refine ⟨hsz, fun x hx => (by cases hx), fun g hg => ?_, .inl ⟨rfl, a, by simp [Loc.at]⟩⟩
      exfalso
      simp only [Loc.at, if_true] at hg
      cases a <;> simp [capBlock] at hg
    · have hk := hO.ob r o hr
      cases o with
      | box cs =>
        obtain ⟨c, f, hcc, hrel, hm⟩ := hk
        exact ⟨c, f, hcc, RelDs.adv hA cs _ hrel, hm⟩
      | map shs agg c es =>
        obtain ⟨arr, hcc, hrel, q1, q2, q3, hm⟩ := hk
        exact ⟨arr, hcc, RelEs.adv hA es _ hrel, q1, q2, q3, hm⟩
      | iter m s sn l =>
        obtain ⟨hcc, hmp, hm⟩ := hk
        exact ⟨hcc, (hA.mp m hmp).2, hm⟩
      | arr ver e' sz' rows =>
        obtain ⟨g1, g2, g3, g4⟩ := hk
        have hs : (L.at q (.slice a 0 0)).sl r = L.sl r := by simp [Loc.at, hne]
        refine ⟨g1, g2, by rw [hs]; exact g3, ?_⟩
        rw [hs]
        rcases g4 with g4 | ⟨g, cap, cur, hv, hp, hh, k1, k2, k3, k4⟩
        · exact .inl g4
        · exact .inr ⟨g, cap, cur, hv, hp, hh, k1, k2, k3, RelL.keep (Keeps.refl (WW W objs L) w).toKeepsC (fun b _ hb => ww_nil hb) _ _ k4⟩
  · rcases setO_cases h1 with ⟨rfl, rfl⟩ | ⟨n1, h1⟩
    · rw [own_nil] at hb; cases hb
    · rw [own_at n1] at hb
      rcases setO_cases h2 with ⟨rfl, rfl⟩ | ⟨n2, h2⟩
      · rw [own_nil]; exact fun h => by cases h
      · rw [own_at n2]; exact hO.apart r r' o o' b hne h1 h2 hb
  · rcases setO_cases hr with ⟨rfl, rfl⟩ | ⟨n1, hr⟩
    · rw [own_nil] at hb; cases hb
    · rw [own_at n1] at hb; exact hO.outer r o b hr hb
end

/-- A slot that holds nil is told as an array without rows. -/
theorem Le.nilSlot {tm : Nat → DV} {ob : Obs} {nxt low : Nat} {td : List (List T)} {k : Nat} (e : Nat) {sz : Nat} (hsz : 0 < sz) (hk : tm k = .nil0) :
    Le ⟨tm, ob, nxt, low, td⟩ ⟨updT tm (some k) (.aref nxt 0), setO ob nxt (.arr 0 e sz []), nxt + 1, low, td⟩ := by
  intro κ nt a w L h
  have hq : ob nxt = none := h.fresh nxt (Nat.le_refl _)
  obtain ⟨W, base, M, w0, hat, h0⟩ := h.r.ex
  have hx := h0.tmps k
  simp only [hk, RelD] at hx
  obtain ⟨ad, hx⟩ := hx
  have hA := nil_adv (W := W) (w := w) (L := L) (a := ad) (e := e) (sz := sz) hq
  have hsub := hat.sub
  have hfr : ∀ r, nxt + 1 ≤ r → setO ob nxt (.arr 0 e sz []) r = none := fun r hr => by
    simp only [setO]; rw [if_neg (by omega)]; exact h.fresh r (by simp only; omega)
  refine ⟨L.at nxt (.slice ad 0 0), ⟨⟨W, base, M, w0, hat, h0.size, fun t => ?_, nil_relO h0.o hsz hq⟩, Adv.comp h.r.adv hA hsub.1 hsub.2, h.r.defers, h.r.bg, ⟨_, hfr⟩⟩, hfr, h.low, h.it⟩
  simp only [updT]
  by_cases ht : t = k
  · subst ht
    simp only [if_true, RelD]
    refine ⟨⟨ad, 0, 0, hx⟩, 0, e, sz, [], by simp, Nat.le_refl _, fun _ => ?_⟩
    rw [hx]; simp [Loc.at]
  · simp only [ht, if_false]
    exact RelD.adv hA _ _ (h0.tmps t)

@[simp] theorem look_nil_fun : look [] = fun _ => DV.undef := by funext k; rfl
def sameVerO : Option Ob → Option Ob → Prop
  | some a, some b => sameVer a b
  | _, _ => False
/-- What was there before is kept. -/
def keptLow (low : Nat) (o0 o : Obs) : List (Nat × Ob) → Prop
  | [] => True
  | (r, _) :: l => (r < low → sameVerO (o0 r) (o r)) ∧ keptLow low o0 o l
attribute [simp] keptLow sameVerO sameVer

@[simp] theorem gone_cons {σ : Nat → Nat} {r j : Nat} {o : Ob} {l : List (Nat × Ob)} : gone (obs ((j, o) :: l)) σ r ↔ σ j ≠ r ∧ gone (obs l) σ r := by
  refine ⟨fun h => ⟨h j (by simp), fun r' hr' => h r' (by simp only [obs_cons]; split <;> simp [hr'])⟩, fun h => gone_obs h.1 h.2⟩
@[simp] theorem gone_nil {σ : Nat → Nat} {r : Nat} : gone (obs []) σ r := fun r' h => absurd rfl h
end Go.DM
/- The D-machine, part Za: objects told as changes of an unknown rest; contracts that tell of the answer no more than a property; answers that hold more than trees. Conditions: none. -/
namespace Go.DM
open Go.RowKit
set_option linter.unusedSimpArgs false
set_option linter.unusedVariables false
set_option linter.unusedSectionVars false
variable [Laid]

/-- The objects f, with these told anew. -/
def over : List (Nat × Ob) → Obs → Obs
  | [], f => f
  | (r, o) :: l, f => fun k => if k = r then some o else over l f k
@[simp] theorem over_cons (r : Nat) (o : Ob) (l : List (Nat × Ob)) (f : Obs) (k : Nat) : over ((r, o) :: l) f k = if k = r then some o else over l f k := rfl
@[simp] theorem over_nil (f : Obs) (k : Nat) : over [] f k = f k := rfl
@[simp] theorem putO_over (l : List (Nat × Ob)) (f : Obs) (r : Nat) (o : Ob) : putO (over l f) (some (r, o)) = over ((r, o) :: l) f := rfl
section
variable {base : Nat} {W M : Nat → Prop} {w0 w : World} {objs objs' : Obs} {L : Loc}

/-- Values whose names stand for objects of the same make and version say the same. -/
def sameAt (objs objs' : Obs) (m : Nat) : Prop := ∃ o o', objs m = some o ∧ objs' m = some o' ∧ sameVer o o'
end

section
variable {P : Program}
theorem results_slot {fn : Func} {t : Nat} {tmps : Array Value} {w : World} (hr : fn.results.toList.mapM (resOf P) = some [.slot t]) : (results fn tmps).run P w = .ok (tmps.getD t Go.undef) w := by
  have h1 : ∃ rv, fn.results.toList = [rv] ∧ resOf P rv = some (.slot t) := by
    cases h : fn.results.toList with
    | nil => rw [h] at hr; simp at hr
    | cons rv l =>
      rw [h] at hr
      simp only [List.mapM_cons, Option.pure_def, Option.bind_eq_bind, Option.bind_eq_some_iff, Option.some.injEq, List.cons.injEq] at hr
      obtain ⟨x, hx, ys, hys, rfl, rfl⟩ := hr
      cases l with
      | nil => exact ⟨rv, rfl, hx⟩
      | cons y l => simp [Option.bind_eq_some_iff] at hys
  obtain ⟨rv, h1, h2⟩ := h1
  have h3 : fn.results = #[rv] := by rw [← Array.toArray_toList (xs := fn.results), h1]
  cases rv with
  | tmp t' =>
    simp only [resOf, Option.some.injEq, DRes.slot.injEq] at h2
    subst h2
    have hrr : (results fn tmps) = (do
      let vs ← fn.results.mapM (fun rv => ((match rv with | .tmp t => pure (tmps.getD t Go.undef) | .cell b t => do loadVar t (← asAddr (tmps.getD b Go.undef))) : Sem Value))
      pure (if h : vs.size = 1 then vs[0] else .tuple vs)) := rfl
    have hm : (fn.results.mapM (fun rv => ((match rv with | .tmp t => pure (tmps.getD t Go.undef) | .cell b t => do loadVar t (← asAddr (tmps.getD b Go.undef))) : Sem Value))).run P w = .ok #[tmps.getD t' Go.undef] w := by
      rw [Array.mapM_eq_mapM_toList, h1]
      simp
    rw [hrr]
    simp only [Sem.run_bind, hm, Result.andThen_ok, Sem.run_pure]
    rfl
  | cell b t' =>
    simp only [resOf] at h2
    split at h2 <;> simp at h2

/-- The end of a function that answers with a slice over new memory. -/
def finF (t e sz : Nat) (rows : List (List T)) : Exit → DSt → Prop
  | .normal, st | .ret, st => (st.tmps t = .nil0 ∧ rows = [] ∧ 0 < sz) ∨ ∃ r ver, st.tmps t = .aref r ver ∧ st.objs r = some (.arr ver e sz rows)
  | _, _ => False
theorem CodeOf.okF {f : FuncId} {nt : Nat} {d : DC} {t : Nat} (h : CodeOf P f nt d [.slot t]) {ts : List T} {e sz : Nat} {rows : List (List T)} (hlen : ts.length ≤ nt) (k : SatD P nt d (finF t e sz rows) (initSt ts)) : CallsF P f ts e sz rows := by
  have hent := h.entry
  obtain ⟨fn, hfn, rfl, h3, hr, _⟩ := h
  obtain ⟨c, hb, hc⟩ := Option.map_eq_some_iff.1 h3
  refine ⟨hent, fun W w vals hW hg hrel => ?_⟩
  have hl := RelA.length hrel
  simp only [Array.length_toList] at hl
  have hrel0 : Rel ⟨W, fun _ => none, ⟨fun _ => 0, fun _ => Go.undef, 0⟩, w, w.heap.size, fun _ => False, w, none, none⟩ fn.ntmps (initSt ts) { tmps := vals ++ Array.replicate (fn.ntmps - vals.size) Go.undef, defers := [] } w ⟨fun _ => 0, fun _ => Go.undef, 0⟩ := by
    refine ⟨⟨⟨W, w.heap.size, fun _ => False, w, ⟨rfl, rfl, rfl, rfl, rfl⟩, by simp; omega, fun k => ?_, ⟨Fr.refl (Nat.le_refl _), (fun r o h => by cases h), (fun r r' o o' b _ h => by cases h), (fun r o b h => by cases h), hW, hg.start⟩⟩,
      Adv.refl_of_keeps (Keeps.refl _ _), ⟨[], rfl, List.nodup_nil, (fun _ h => by cases h), fun _ => rfl⟩, fun _ => Nat.le_refl _, ⟨0, fun _ _ => rfl⟩⟩, fun _ _ => rfl, fun _ _ => rfl, fun h => by cases h⟩
    simp only [initSt]
    cases hk : ts[k]? with
    | some x =>
      obtain ⟨v, hv, hv2⟩ := RelA.get hrel hk
      simp only [init_get hv, argD, RelD]
      refine RelT.keep (Keeps.refl W w).toKeepsC ?_ x v hv2
      rintro b hb (h | ⟨r, o, h, _⟩)
      · exact h
      · cases h
    | none =>
      have hge : vals.size ≤ k := by
        have := List.getElem?_eq_none_iff.1 hk
        omega
      simp only [argD, RelD, init_none hge]
  refine callsIn_wide.1 (callsIn_of_wp_marks (n := 0) hfn hb trivial ?_)
  refine wpIn_mono (k.run c hc 0 _ _ _ _ ⟨fun J hJ => (by cases hJ), fun l hl => (by cases hl)⟩ hrel0) ?_
  rintro e' a' w' ⟨st', L', q, r'⟩
  have done : ((st'.tmps t = .nil0 ∧ rows = [] ∧ 0 < sz) ∨ ∃ r ver, st'.tmps t = .aref r ver ∧ st'.objs r = some (.arr ver e sz rows)) → LeavesInM Fence.wide 0 P fn a'.tmps (fun e' w' => ∃ v, e' = .returned v ∧ BelD w.heap.size w w' ∧ FreshArr w.heap.size w' W e sz rows v) a'.defers .returning w' := by
    intro hq
    obtain ⟨Ds, h1, h2, h3, _⟩ := r'.r.defers
    rw [h1]
    refine leaves (κ := ⟨W, fun _ => none, ⟨fun _ => 0, fun _ => Go.undef, 0⟩, w, w.heap.size, fun _ => False, w, none, none⟩) rfl ?_ Ds a' w' L' r'.r h1 h2 h3
    intro a2 w2 L2 h4
    obtain ⟨W', base', M', w0', hat, h0⟩ := h4.ex
    obtain ⟨_, e1, e2, e3, e4⟩ := hat
    replace h0 : R0 w.heap.size W (fun _ => False) w fn.ntmps st'.tmps st'.objs a2 w2 L2 := by rw [e1, e2, e3, e4] at h0; exact h0
    have fr := h0.o.fr
    refine ⟨_, results_slot hr, _, rfl, ⟨⟨fr.os, fr.tape, fr.output, fr.size, fun k hk => fr.block k hk (fun x => x)⟩, fr.drawn⟩, ?_⟩
    have ht := h0.tmps t
    rcases hq with ⟨hq, rfl, hsz⟩ | ⟨r, ver, hq, ho⟩
    · rw [hq] at ht
      simp only [RelD] at ht
      exact ⟨hsz, fun _ h => (by cases h), .inl ⟨rfl, ht⟩⟩
    · rw [hq] at ht
      simp only [RelD] at ht
      obtain ⟨_, ver', e', sz', rows', ho', _, hx⟩ := ht
      rw [ho] at ho'
      cases ho'
      have hx := hx rfl
      obtain ⟨g1, g2, g3, g4⟩ := h0.o.ob r _ ho
      refine ⟨g1, g2, ?_⟩
      rcases g4 with ⟨h5, a, h6⟩ | ⟨g, cap, cur, hv, hp, hh, k1, k2, k3, k4⟩
      · exact .inl ⟨h5, a, hx.trans h6⟩
      · have hcb : capBlock (L2.sl r) = some g := by rw [hv]; simp [capBlock, Nat.pos_iff_ne_zero.1 hp]
        refine .inr ⟨g, cap, cur, hx.trans hv, hp, (g3 g hcb).resolve_right (fun x => x), hh, k1, k2, k3, RelL.keep (Keeps.refl (WW W st'.objs L2) w2).toKeepsC (fun b _ hb => ?_) _ _ k4⟩
        rcases hb with hb | rfl
        · exact .inl hb
        · exact .inr ⟨r, _, ho, hcb⟩
  cases e' with
  | normal => exact done q
  | ret => exact done q
  | _ => exact q.elim

section
variable {κ : Ctx} {nt : Nat} {Γ : Env} {nxt : Nat} {ro : Option Nat} {n : Nat}
end

section
variable {nt : Nat} {Γ : Env} {Q : Exit → DSt → Prop} {tm : Nat → DV} {ob : Obs} {nxt low : Nat} {td : List (List T)}
end
end
end Go.DM
