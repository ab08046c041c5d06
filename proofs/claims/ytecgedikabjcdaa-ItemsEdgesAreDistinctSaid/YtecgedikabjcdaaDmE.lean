/- The D-machine, part E: stores, new objects, appends: each does in the model what the machine says. Conditions: none. -/
import Derived.Test.YtecgedikabjcdaaDmD
namespace Go.DM
open Go.RowKit
set_option linter.unusedSimpArgs false
set_option linter.unusedVariables false
section
variable {w : World} {W : Nat → Prop} {objs : Obs} {L : Loc}

theorem boxable_of_cells {y : DV} (h : cellables (cellsOf y)) (hl : (cellsOf y).length ≠ 0 ∨ True) : boxable y := by
  cases y with
  | undef => simp [cellsOf, cellables, cellable] at h
  | skip => simp [cellsOf, cellables, cellable] at h
  | v t =>
    cases t <;> simp_all [cellsOf, cellables, cellable, boxable, leafT]
  | _ => simp [boxable]

theorem cellables_one {y : DV} {yv : Value} (hy : RelD w W objs L y yv) (h : cellables (cellsOf y)) : RelDs w W objs L (cellsOf y) yv.cells.toList :=
  RelD.cells hy (boxable_of_cells h (.inr trivial))

theorem RelDs.one {ds : List DV} : ∀ {vs : List Value}, RelDs w W objs L ds vs → ∀ v ∈ vs, v.oneCell' = true := by
  induction ds with
  | nil => intro vs h; simp only [RelDs] at h; subst h; simp
  | cons d ds ih =>
    intro vs h
    simp only [RelDs] at h
    obtain ⟨v, vs', rfl, h1, _, hr⟩ := h
    intro u hu
    rcases List.mem_cons.1 hu with rfl | hu
    · exact h1
    · exact ih hr u hu
theorem RelL.one {ds : List T} : ∀ {vs : List Value}, RelL w W ds vs → ∀ v ∈ vs, v.oneCell' = true := by
  induction ds with
  | nil => intro vs h; simp only [RelL] at h; subst h; simp
  | cons d ds ih =>
    intro vs h
    simp only [RelL] at h
    obtain ⟨v, vs', rfl, h1, _, hr⟩ := h
    intro u hu
    rcases List.mem_cons.1 hu with rfl | hu
    · exact h1
    · exact ih hr u hu
theorem RelDs.splice {a b : List DV} {va vb : List Value} (off : Nat) (ha : RelDs w W objs L a va) (hb : RelDs w W objs L b vb) : RelDs w W objs L (splice a off b) (splice va off vb) := by
  unfold DM.splice
  rw [← RelDs.length hb]
  exact RelDs.append (RelDs.append (RelDs.take off ha) hb) (RelDs.drop _ ha)
theorem RelL.splice {a b : List T} {va vb : List Value} (off : Nat) (ha : RelL w W a va) (hb : RelL w W b vb) : RelL w W (splice a off b) (splice va off vb) := by
  unfold DM.splice
  rw [← RelL.length hb]
  exact RelL.append (RelL.append (RelL.take off ha) hb) (RelL.drop _ ha)

theorem fr_setRow {base : Nat} {M : Nat → Prop} {w0 : World} {g : Nat} (cs : Array Value) (h : Fr base M w0 w) (hg : base ≤ g ∨ M g) : Fr base M w0 (w.setRow g cs) :=
  ⟨h.os, h.tape, h.output, h.size0, by simpa using h.size, fun k hk hm => by
    rw [setRow_other w g k cs (by rintro rfl; rcases hg with h1 | h1; · omega
                                  exact hm h1)]
    exact h.block k hk hm⟩

theorem store_run {P : Program} {t : TypeId} {i : TypeInfo} (hi : P.info? t = some i) {g o : Nat} {e : TypeId} {cur : Array Value} (hg : w.heap[g]? = some (.cells cur e (0, 0))) {yv : Value}
    (hl : yv.cells.size = i.size) (hfit : o + i.size ≤ cur.size) (h1 : ∀ v ∈ yv.cells.toList, v.oneCell' = true) :
    (Instr.storeAt t (.pointer (some ⟨g, o, none⟩)) yv).run P w = .ok () (w.setRow g (splice cur.toList o yv.cells.toList).toArray) := by
  have hs := run_storeCells_at P g o e yv.cells.toList 0 cur w hg (by simp [hl]; omega) h1
  simp only [Nat.add_zero] at hs
  simp only [Instr.storeAt, Instr.sureAddr, storeVar, Sem.run_bind, Sem.run_pure, Result.andThen_ok, run_sizeOf hi, hl, ne_eq, not_true_eq_false, if_false]
  exact hs

theorem store_box {P : Program} {base : Nat} {M : Nat → Prop} {w0 : World} (hO : RelO base W M w0 objs w L) {t : TypeId} {i : TypeInfo} (hi : P.info? t = some i)
    {r off : Nat} {cs : List DV} (hc : objs r = some (.box cs)) {y : DV} {yv : Value} (hy : RelD w W objs L y yv)
    (hn : (cellsOf y).length = i.size) (hfit : off + i.size ≤ cs.length) (hce : cellables (cellsOf y)) :
    ∃ w', (Instr.storeAt t (.pointer (some ⟨L.blk r, off, none⟩)) yv).run P w = .ok () w' ∧
      RelO base W M w0 (putO objs (some (r, .box (splice cs off (cellsOf y))))) w' L ∧ Adv W objs L w (putO objs (some (r, .box (splice cs off (cellsOf y))))) L w' := by
  obtain ⟨c, e, hh, hr, hm⟩ := hO.ob r _ hc
  have hys := cellables_one hy hce
  have hyl : yv.cells.size = i.size := by have := RelDs.length hys; simpa [hn] using this
  have hcl : c.size = cs.length := by simpa using RelDs.length hr
  refine ⟨_, store_run hi hh hyl (by omega) (RelDs.one hys), ?_⟩
  refine RelO.put hO (fr_setRow _ hO.fr hm) (by simp) (fun _ _ => ⟨rfl, rfl⟩) rfl (fun b _ hb => setRow_other w _ b _ (fun x => hb _ hc (by simp [Loc.own, x])))
    (fun b hb => .inl ⟨_, hc, hb⟩) (fun cs' hc' => ⟨rfl, _, rfl⟩) (fun ver e sz rows h => by rw [hc] at h; cases h) (fun adv => ?_)
  refine ⟨_, e, setRow_heap w _ c _ e _ hh, ?_, hm⟩
  exact RelDs.splice off (RelDs.adv adv _ _ hr) (RelDs.adv adv _ _ hys)

theorem length_splice {α : Type} {l new : List α} {off : Nat} (h : off + new.length ≤ l.length) : (splice l off new).length = l.length := by
  simp [splice]; omega
theorem take_splice {α : Type} {l new : List α} {off n : Nat} (h : off + new.length ≤ n) (hn : n ≤ l.length) : (splice l off new).take n = splice (l.take n) off new := by
  unfold splice
  have e1 : List.take off (List.take n l) = List.take off l := by rw [List.take_take]; congr 1; omega
  have e2 : (List.take off l ++ new).length = off + new.length := by simp; omega
  rw [e1, List.drop_take, List.take_append, e2, List.take_of_length_le (by omega)]
theorem flatten_set {sz : Nat} : ∀ (rows : List (List T)) (i off : Nat) (new : List T), (∀ r ∈ rows, r.length = sz) → i < rows.length → off + new.length ≤ sz →
    (rows.set i (splice (rows.getD i []) off new)).flatten = splice rows.flatten (i * sz + off) new
  | [], i, _, _, _, h, _ => by simp at h
  | r :: rs, 0, off, new, hl, _, hf => by
    have hr : r.length = sz := hl r (by simp)
    simp only [List.getD_cons_zero, List.set_cons_zero, List.flatten_cons, splice, Nat.zero_mul, Nat.zero_add]
    rw [List.take_append_of_le_length (by omega), List.drop_append_of_le_length (by omega)]
    simp
  | r :: rs, i + 1, off, new, hl, h, hf => by
    have hr : r.length = sz := hl r (by simp)
    have ih := flatten_set rs i off new (fun x hx => hl x (by simp [hx])) (by simpa using h) hf
    simp only [List.getD_cons_succ, List.set_cons_succ, List.flatten_cons]
    rw [show ∀ (a b : List T), splice (a ++ b) ((i + 1) * sz + off) new = (a ++ b).take ((i + 1) * sz + off) ++ new ++ (a ++ b).drop ((i + 1) * sz + off + new.length) from fun _ _ => rfl]
    have e : (i + 1) * sz + off = r.length + (i * sz + off) := by rw [Nat.add_mul, hr]; omega
    rw [e, List.take_append, List.drop_append]
    have e1 : r.length + (i * sz + off) - r.length = i * sz + off := by omega
    have e2 : r.length + (i * sz + off) + new.length - r.length = i * sz + off + new.length := by omega
    rw [e1, e2, List.take_of_length_le (l := r) (by omega), List.drop_eq_nil_of_le (as := r) (by omega)]
    simp only [List.nil_append, List.append_assoc]
    rw [ih]
    simp only [splice, List.append_assoc]
theorem relT_of_pure {objs2 : Obs} {d : DV} {v : Value} (hp : pureCell d) (h : RelD w W objs L d v) : RelT w (WW W objs L) (tOf objs2 d) v := by
  cases d with
  | v t => simpa [tOf, RelD] using h
  | nil0 =>
    simp only [RelD] at h
    obtain ⟨a, rfl⟩ := h
    simp only [tOf, RelT]
    exact .inl ⟨trivial, a, 0, rfl⟩
  | _ => exact hp.elim
theorem relL_of_pure {objs2 : Obs} : ∀ {ds : List DV} {vs : List Value}, pureCells ds → RelDs w W objs L ds vs → RelL w (WW W objs L) (tOfs objs2 ds) vs
  | [], vs, _, h => by simpa [RelDs, RelL, tOfs] using h
  | d :: ds, vs, hp, h => by
    simp only [pureCells] at hp
    simp only [RelDs] at h
    obtain ⟨v, vs', rfl, h1, h2, hr⟩ := h
    simp only [tOfs, RelL]
    exact ⟨v, vs', rfl, h1, relT_of_pure hp.1 h2, relL_of_pure hp.2 hr⟩
theorem pure_cellables : ∀ {ds : List DV}, pureCells ds → cellables ds
  | [], _ => trivial
  | d :: ds, h => by
    simp only [pureCells] at h
    simp only [cellables]
    refine ⟨?_, pure_cellables h.2⟩
    have := h.1
    cases d <;> simp_all [pureCell, cellable]
theorem tOfs_length : ∀ (ds : List DV), (tOfs objs ds).length = ds.length
  | [] => rfl
  | _ :: ds => by simp [tOfs, tOfs_length ds]

theorem store_arr {P : Program} {base : Nat} {M : Nat → Prop} {w0 : World} (hO : RelO base W M w0 objs w L) {t : TypeId} {i : TypeInfo} (hi : P.info? t = some i)
    {r off ver e sz : Nat} {rows : List (List T)} {j : Int} {g : Nat} (hc : objs r = some (.arr ver e sz rows)) (hg : capBlock (L.sl r) = some g) (h0 : 0 ≤ j) (h1 : j < rows.length)
    {y : DV} {yv : Value} (hy : RelD w W objs L y yv) (hn : (cellsOf y).length = i.size) (hfit : off + i.size ≤ sz) (hce : pureCells (cellsOf y)) :
    ∃ w', (Instr.storeAt t (.pointer (some ⟨g, j.toNat * sz + off, none⟩)) yv).run P w = .ok () w' ∧
      RelO base W M w0 (putO objs (some (r, .arr ver e sz (rows.set j.toNat (splice (rowAt rows j) off (tOfs objs (cellsOf y))))))) w' L ∧
      Adv W objs L w (putO objs (some (r, .arr ver e sz (rows.set j.toNat (splice (rowAt rows j) off (tOfs objs (cellsOf y))))))) L w' := by
  have hob := hO.ob r _ hc
  obtain ⟨hsz, hrows, hm, hal⟩ := hob
  rcases hal with ⟨rfl, _⟩ | ⟨g', cap, cur, hv, hp, hh, hle, hcap, hcur, hrel⟩
  · simp at h1; omega
  · rw [hv] at hg
    simp only [capBlock, if_neg (Nat.pos_iff_ne_zero.1 hp), Option.some.injEq] at hg
    subst hg
    have hys := cellables_one hy (pure_cellables hce)
    have hyl : yv.cells.size = i.size := by have := RelDs.length hys; simpa [hn] using this
    have hj : j.toNat < rows.length := by omega
    have hjs : j.toNat * sz + sz ≤ rows.length * sz := by
      have := Nat.mul_le_mul_right sz (show j.toNat + 1 ≤ rows.length by omega)
      rwa [Nat.add_mul, Nat.one_mul] at this
    have hcs : rows.length * sz ≤ cap * sz := Nat.mul_le_mul_right sz hle
    have hnl : (tOfs objs (cellsOf y)).length = i.size := by rw [tOfs_length]; exact hn
    have hvl : yv.cells.toList.length = i.size := by simpa using hyl
    have hown : L.own r (.arr ver e sz rows) = some g' := by simp [Loc.own, hv, capBlock, Nat.pos_iff_ne_zero.1 hp]
    refine ⟨_, store_run hi hh hyl (by omega) (RelDs.one hys), ?_⟩
    refine RelO.put hO (fr_setRow _ hO.fr (hm g' (by simp [hv, capBlock, Nat.pos_iff_ne_zero.1 hp]))) (by simp) (fun _ _ => ⟨rfl, rfl⟩) rfl (fun b _ hb => setRow_other w _ b _ (fun x => hb _ hc (by rw [hown, x])))
      (fun b hb => .inl ⟨_, hc, hb⟩) (fun cs' hc' => by rw [hc] at hc'; cases hc') (fun ver' e' sz' rows' h => ?_) (fun adv => ?_)
    · rw [hc] at h
      cases h
      exact ⟨ver, e, sz, _, rfl, Nat.le_refl _, fun _ => ⟨rfl, rfl, by simp⟩⟩
    · refine ⟨hsz, fun x hx => ?_, hm, .inr ⟨g', cap, _, by simpa using hv, hp, setRow_heap w _ cur _ e _ hh, by simpa using hle, hcap, ?_, ?_⟩⟩
      · rcases List.mem_or_eq_of_mem_set hx with hx | rfl
        · exact hrows x hx
        · rw [length_splice]
          · exact hrows _ (by rw [rowAt, List.getD, List.getElem?_eq_getElem hj]; simp)
          · have : (rowAt rows j).length = sz := hrows _ (by rw [rowAt, List.getD, List.getElem?_eq_getElem hj]; simp)
            omega
      · have := length_splice (l := cur.toList) (new := yv.cells.toList) (off := j.toNat * sz + off) (by simp only [Array.length_toList] at hvl ⊢; omega)
        simpa using this.trans (by simpa using hcur)
      · rw [show rowAt rows j = rows.getD j.toNat [] from rfl, flatten_set rows j.toNat off _ hrows hj (by omega)]
        simp only [List.length_set]
        have e1 : (splice cur.toList (j.toNat * sz + off) yv.cells.toList).toArray.toList.take (rows.length * sz) = splice (cur.toList.take (rows.length * sz)) (j.toNat * sz + off) yv.cells.toList := by
          rw [List.toList_toArray]
          exact take_splice (by omega) (by simp; omega)
        rw [e1]
        exact RelL.splice _ (RelL.keep adv.keeps.toKeepsC adv.sub _ _ hrel) (RelL.keep adv.keeps.toKeepsC adv.sub _ _ (relL_of_pure hce hys))
def Loc.setBlk (L : Loc) (r b : Nat) : Loc := ⟨fun x => if x = r then b else L.blk x, L.sl, L.yl⟩
def Loc.setSl (L : Loc) (r : Nat) (v : Value) : Loc := ⟨L.blk, fun x => if x = r then v else L.sl x, L.yl⟩

theorem fr_below {base : Nat} {M : Nat → Prop} {w0 w' : World} (h : Fr base M w0 w) (hb : Below w.heap.size w w') : Fr base M w0 w' := by
  have hle : base ≤ w.heap.size := Nat.le_trans h.size0 h.size
  exact h.trans ⟨hb.os, hb.tape, hb.output, hle, hb.size, fun k hk _ => hb.block k (by omega)⟩

theorem below_alloc (o : Obj) : Below w.heap.size w (w.alloc o) := (Below.refl _ _).alloc (Nat.le_refl _) _

/-- A new box. -/
theorem new_box {base : Nat} {M : Nat → Prop} {w0 : World} (hO : RelO base W M w0 objs w L) {r : Nat} (hr : objs r = none) {cs : List DV} {c : Array Value} (e : TypeId) (hc : RelDs w W objs L cs c.toList) :
    RelO base W M w0 (putO objs (some (r, .box cs))) (w.alloc (.cells c e)) (L.setBlk r w.heap.size) ∧
      Adv W objs L w (putO objs (some (r, .box cs))) (L.setBlk r w.heap.size) (w.alloc (.cells c e)) := by
  have hb := below_alloc (w := w) (.cells c e)
  refine RelO.put hO (fr_below hO.fr hb) hb.size (fun x hx => ⟨by simp [Loc.setBlk, hx], rfl⟩) rfl (fun b hlt _ => hb.block b hlt) (fun b h => .inr ?_)
    (fun cs' h => by rw [hr] at h; cases h) (fun _ _ _ _ h => by rw [hr] at h; cases h) (fun adv => ?_)
  · simp only [Loc.own, Loc.setBlk, if_true, Option.some.injEq] at h
    omega
  · refine ⟨c, e, ?_, RelDs.adv adv _ _ hc, .inl ?_⟩
    · simp only [Loc.setBlk, if_true]; exact heap_alloc_new w _
    · simp only [Loc.setBlk, if_true]; exact Nat.le_trans hO.fr.size0 hO.fr.size

theorem Below.of_grown {w' : World} (h : w.grownBy w' none) : Below w.heap.size w w' := ⟨h.os, h.tape, h.output, h.size, fun k hk => h.block k hk (by simp)⟩

/-- The source of an append. -/
structure SrcOk (w : World) (W' : Nat → Prop) (ys : List (List T)) (sz : Nat) (v : Value) : Prop where
  it : (ys = [] ∧ ∃ (a : Option Addr) (c : Nat), v = .slice a 0 c) ∨ ∃ b o c, v = .slice (some ⟨b, o, none⟩) ys.length c ∧ RelRows w W' sz b o ys

theorem src_sound {base : Nat} {M : Nat → Prop} {w0 : World} (hO : RelO base W M w0 objs w L) {y : DV} {yv : Value} {ys : List (List T)} {sz : Nat} (hy : RelD w W objs L y yv) (hs : srcRows objs y = some ys) (hl : ∀ r ∈ ys, r.length = sz) :
    SrcOk w (WW W objs L) ys sz yv := by
  cases y with
  | v t =>
    cases t with
    | sl rows =>
      simp only [srcRows, Option.some.injEq] at hs
      subst hs
      simp only [RelD, RelT] at hy
      rcases hy with hy | ⟨b, o, cap, sz', rfl, _, _, hc, hr⟩
      · exact ⟨.inl hy⟩
      · refine ⟨.inr ⟨b, o, cap, rfl, ?_⟩⟩
        match rows, hr with
        | [], _ => simp [RelRows]
        | r :: rs, hr =>
          have h1 := (RelRows.row hr (i := 0) (r := r) rfl).1
          have h2 := hl r (by simp)
          have : sz' = sz := by omega
          exact this ▸ hr
    | _ => simp [srcRows] at hs
  | nil0 =>
    simp only [srcRows, Option.some.injEq] at hs
    subst hs
    simp only [RelD] at hy
    obtain ⟨a, rfl⟩ := hy
    exact ⟨.inl ⟨rfl, a, 0, rfl⟩⟩
  | aref r ver =>
    simp only [srcRows] at hs
    simp only [RelD] at hy
    obtain ⟨_, ver', e, sz', rows, ho, _, hx⟩ := hy
    rw [ho] at hs
    simp only at hs
    split at hs
    · rename_i hv
      simp only [Option.some.injEq] at hs
      subst hs
      have hob := hO.ob r _ ho
      obtain ⟨hsz, hrows, hm, hal⟩ := hob
      rw [hx hv]
      rcases hal with ⟨rfl, a, ha⟩ | ⟨g', cap, cur, hv', hp, hh, hle, hcap, hcur, hrel⟩
      · exact ⟨.inl ⟨rfl, a, 0, ha⟩⟩
      · have hrr := ObOk.rows (hO.ob r _ ho) (g := g') (by simp [hv', capBlock, Nat.pos_iff_ne_zero.1 hp])
        refine ⟨.inr ⟨g', 0, cap, hv', ?_⟩⟩
        match rows, hrr, hl, hrows with
        | [], _, _, _ => simp [RelRows]
        | r :: rs, hr, hl, hrows =>
          have h1 := hrows r (by simp)
          have h2 := hl r (by simp)
          have : sz' = sz := by omega
          exact this ▸ hr
    · cases hs
  | _ => simp [srcRows] at hs

theorem run_append_zero {P : Program} (w : World) (t ty e : TypeId) (i : TypeInfo) (ht : P.underlying t = some (.slice e)) (hi : P.info? e = some i) (a b : Option Addr) (n cap c : Nat) (hn : n ≤ cap) :
    (Builtin.append_ #[t, t] ty #[.slice a n cap, .slice b 0 c]).run P w = .ok (.slice a n cap) w := by
  have hf : (Builtin.firstCells i.size 0 (.slice b 0 c)).run P w = .ok #[] w := by
    cases b <;> simp [Builtin.firstCells, loadCells, loadCellsFrom]
  cases a <;> simp [Builtin.append_, run_underlying ht, sizeOf, typeInfo, hi, Builtin.lenOf, hn, hf, storeCells]

theorem grown_owns {e sz : Nat} {z : Value} (hzs : z.cells.size = sz) {n m old : Nat} {xs vs : List Value} (hx : xs.length = n * sz) (hv : vs.length = m * sz) (h63 : n + m ≤ maxLen) :
    (w.drew.alloc (.cells (xs.toArray ++ vs.toArray ++ Builtin.zeroCells z.cells (grownCap w (n + m) old e - (n + m))) e)).ownsRow 0 e sz (.slice (some ⟨w.heap.size, 0, none⟩) (n + m) (grownCap w (n + m) old e)) (n + m) (xs ++ vs) ∧
      ∀ row, w.grownBy (w.drew.alloc (.cells (xs.toArray ++ vs.toArray ++ Builtin.zeroCells z.cells (grownCap w (n + m) old e - (n + m))) e)) row := by
  have hge := grownCap_ge w (n + m) old e
  have hcm : grownCap w (n + m) old e ≤ maxLen := grownCap_le_maxLen w (n + m) old e h63
  have hlen : (xs ++ vs).length = (n + m) * sz := by rw [List.length_append, hx, hv, Nat.add_mul]
  refine ⟨⟨hlen, .inr ⟨w.heap.size, _, _, rfl, Nat.zero_le _, heap_alloc_new w.drew _, hge, hcm, ?_, ?_⟩⟩, fun row => ⟨rfl, rfl, rfl, by simp, fun k hk _ => heap_alloc_old w.drew _ k hk⟩⟩
  · simp only [Array.size_append, List.size_toArray, size_zeroCells, hzs, hx, hv, ← Nat.add_mul]
    congr 1
    omega
  · simp only [Array.toList_append, List.append_assoc]
    rw [← List.append_assoc, ← hlen]
    exact List.take_left

/-- What an append leaves: a slice over a row of its own. -/
theorem run_append_any {P : Program} {t ty e : TypeId} {i : TypeInfo} {z : Value} {sz : Nat} (ht : P.underlying t = some (.slice e)) (hi : P.info? e = some i) (hz : i.zero = some z) (hsize : i.size = sz) (hzs : z.cells.size = sz)
    {W' : Nat → Prop} {v : Value} {n : Nat} {xs : List Value} (hown : (n = 0 ∧ xs = [] ∧ ∃ a : Option Addr, v = .slice a 0 0) ∨ ∃ g cap cur, v = .slice (some ⟨g, 0, none⟩) n cap ∧ 0 < cap ∧ w.heap[g]? = some (.cells cur e (0, 0)) ∧ n ≤ cap ∧ cap ≤ maxLen ∧ cur.size = cap * sz ∧ cur.toList.take (n * sz) = xs)
    {ys : List (List T)} {yv : Value} (hs : SrcOk w W' ys sz yv) (hyw : ∀ b o, RelRows w W' sz b o ys → ∃ vs, vs.length = ys.length * sz ∧ RelL w W' ys.flatten vs ∧ ∀ j v, vs[j]? = some v → w.cell? ⟨b, o + j, none⟩ = some v) (hroom : roomOk i.bytes (n + ys.length)) :
    ∃ v' w' vs, (Builtin.append_ #[t, t] ty #[v, yv]).run P w = .ok v' w' ∧ RelL w W' ys.flatten vs ∧ vs.length = ys.length * sz ∧
      ((n + ys.length = 0 ∧ ∃ a : Option Addr, v' = .slice a 0 0) ∨ ∃ g cap cur, v' = .slice (some ⟨g, 0, none⟩) (n + ys.length) cap ∧ 0 < cap ∧ w'.heap[g]? = some (.cells cur e (0, 0)) ∧ n + ys.length ≤ cap ∧ cap ≤ maxLen ∧ cur.size = cap * sz ∧
          cur.toList.take ((n + ys.length) * sz) = xs ++ vs) ∧
      w.grownBy w' (capBlock v) ∧ (∀ b, capBlock v' = some b → capBlock v = some b ∨ w.heap.size ≤ b) := by
  have h63 : n + ys.length ≤ maxLen := by have := hroom.2; simp only [maxLen]; omega
  have h63i : ((n + ys.length : Nat) : Int) ≤ 9223372036854775807 := by have := hroom.2; omega
  have gself : w.grownBy w (capBlock v) := ⟨rfl, rfl, rfl, Nat.le_refl _, fun _ _ _ => rfl⟩
  rcases hs.it with ⟨rfl, b, c, rfl⟩ | ⟨b, o, c, rfl, hr⟩
  · rcases hown with ⟨rfl, rfl, a, rfl⟩ | ⟨g, cap, cur, rfl, hp, hg, h1, h2, h3, h4⟩
    · exact ⟨_, w, [], run_append_zero w t ty e i ht hi a b 0 0 c (Nat.le_refl _), by simp [RelL], by simp, .inl ⟨rfl, a, rfl⟩, gself, fun b hb => .inl hb⟩
    · exact ⟨_, w, [], run_append_zero w t ty e i ht hi _ b n cap c h1, by simp [RelL], by simp, .inr ⟨g, cap, cur, rfl, hp, hg, h1, h2, h3, by simpa using h4⟩, gself, fun b hb => .inl hb⟩
  · obtain ⟨vs, hvl, hvr, hvc⟩ := hyw b o hr
    have hvc' : ∀ j v, vs[j]? = some v → w.cell? ((⟨b, o, none⟩ : Addr).add j) = some v := fun j v h => by rw [add_off]; exact hvc j v h
    by_cases hy0 : ys.length = 0
    · have : ys = [] := List.eq_nil_of_length_eq_zero hy0
      subst this
      rcases hown with ⟨rfl, rfl, a, rfl⟩ | ⟨g, cap, cur, rfl, hp, hg, h1, h2, h3, h4⟩
      · exact ⟨_, w, [], run_append_zero w t ty e i ht hi a _ 0 0 c (Nat.le_refl _), by simp [RelL], by simp, .inl ⟨rfl, a, rfl⟩, gself, fun b hb => .inl hb⟩
      · exact ⟨_, w, [], run_append_zero w t ty e i ht hi _ _ n cap c h1, by simp [RelL], by simp, .inr ⟨g, cap, cur, rfl, hp, hg, h1, h2, h3, by simpa using h4⟩, gself, fun b hb => .inl hb⟩
    · have grow : ∀ (a : Addr) (old : Nat), old < n + ys.length → xs.length = n * sz → (∀ j u, xs[j]? = some u → w.cell? (a.add j) = some u) →
          ∃ v' w', (Builtin.append_ #[t, t] ty #[.slice (some a) n old, .slice (some ⟨b, o, none⟩) ys.length c]).run P w = .ok v' w' ∧
            (∃ g cap cur, v' = .slice (some ⟨g, 0, none⟩) (n + ys.length) cap ∧ 0 < cap ∧ w'.heap[g]? = some (.cells cur e (0, 0)) ∧ n + ys.length ≤ cap ∧ cap ≤ maxLen ∧ cur.size = cap * sz ∧ cur.toList.take ((n + ys.length) * sz) = xs ++ vs) ∧
            (∀ row, w.grownBy w' row) ∧ (∀ b, capBlock v' = some b → w.heap.size ≤ b) := by
        intro a old ho hxl hxc
        have hrun := run_append_grow (P := P) w t ty e i z ht hi hz a n old xs (by rw [hsize]; exact hxl) hxc ⟨b, o, none⟩ ys.length c vs (by rw [hsize]; exact hvl) hvc' ho h63i (growslice_fits ho hroom.1)
        have hgr := grown_owns (w := w) (e := e) (old := old) hzs hxl hvl h63
        obtain ⟨hlen, hor⟩ := hgr.1
        rcases hor with ⟨hn, _⟩ | ⟨g, cap, cur, hv, _, hg, h1, h2, h3, h4⟩
        · cases hn
        · refine ⟨_, _, hrun, ⟨g, cap, cur, hv, by omega, hg, h1, h2, h3, h4⟩, hgr.2, fun b hb => ?_⟩
          have hcap : grownCap w (n + ys.length) old e ≠ 0 := by have := grownCap_ge w (n + ys.length) old e; omega
          simp only [capBlock, if_neg hcap, Option.some.injEq] at hb
          omega
      rcases hown with ⟨rfl, rfl, a, rfl⟩ | ⟨g, cap, cur, rfl, hp, hg, h1, h2, h3, h4⟩
      · cases a with
        | none =>
          have hrun := run_append_nil (P := P) w t ty e i z ht hi hz ⟨b, o, none⟩ ys.length c vs (by rw [hsize]; exact hvl) hvc' (by omega) (by omega) (by have := growslice_fits (old := 0) (need := ys.length) (by omega) (by simpa using hroom.1); have h2 := hroom.1; simp only [Nat.zero_add] at h2; omega)
          have hgr := grown_owns (w := w) (e := e) (old := 0) (n := 0) (xs := []) hzs (by simp) hvl (by simpa using h63)
          simp only [Nat.zero_add, List.nil_append, Array.empty_append] at hgr ⊢
          obtain ⟨hlen, hor⟩ := hgr.1
          rcases hor with ⟨hn, _⟩ | ⟨g, cap, cur, hv, _, hg, h1, h2, h3, h4⟩
          · cases hn
          · refine ⟨_, _, vs, hrun, hvr, hvl, .inr ⟨g, cap, cur, hv, by omega, hg, h1, h2, h3, h4⟩, hgr.2 _, fun b hb => .inr ?_⟩
            have hcap : grownCap w ys.length 0 e ≠ 0 := by have := grownCap_ge w ys.length 0 e; omega
            simp only [capBlock, if_neg hcap, Option.some.injEq] at hb
            omega
        | some a =>
          obtain ⟨v', w', hrun, hr2, hgr, hbb⟩ := grow a 0 (by omega) (by simp) (by simp)
          exact ⟨v', w', vs, hrun, hvr, hvl, .inr hr2, hgr _, fun b hb => .inr (hbb b hb)⟩
      · have hxl : xs.length = n * sz := by
          rw [← h4, List.length_take, Array.length_toList, h3]; exact Nat.min_eq_left (Nat.mul_le_mul_right sz h1)
        have hcapne : cap ≠ 0 := Nat.pos_iff_ne_zero.1 hp
        by_cases hroomc : n + ys.length ≤ cap
        · have hfit : n * i.size + vs.length ≤ cur.size := by rw [hvl, h3, hsize, ← Nat.add_mul]; exact Nat.mul_le_mul_right _ hroomc
          have hrun := run_append_room (P := P) w t ty e i ht hi g n cap cur hg ⟨b, o, none⟩ ys.length c vs (by rw [hsize]; exact hvl) hvc' (RelL.one hvr) hroomc hfit
          refine ⟨_, _, vs, hrun, hvr, hvl, .inr ⟨g, cap, _, rfl, hp, setRow_heap w g cur _ e _ hg, hroomc, h2, ?_, ?_⟩, ⟨rfl, rfl, rfl, by simp, fun k _ hk => setRow_other w g k _ (fun e => hk (by simp [capBlock, hcapne, e]))⟩, fun b hb => .inl ?_⟩
          · simp only [List.size_toArray, List.length_append, List.length_take, List.length_drop, Array.length_toList]
            rw [hsize] at hfit ⊢
            omega
          · have hlen : (xs ++ vs).length = (n + ys.length) * sz := by rw [List.length_append, hxl, hvl, Nat.add_mul]
            rw [hsize, h4, ← hlen]
            exact List.take_left
          · simpa [capBlock, hcapne] using hb
        · obtain ⟨v', w', hrun, hr2, hgr, hbb⟩ := grow ⟨g, 0, none⟩ cap (by omega) hxl (fun j u hu => by
            rw [add_off, Nat.zero_add, cell_of_row w g j cur e (0, 0) hg]
            rw [← h4, List.getElem?_take] at hu
            split at hu
            · simpa using hu
            · cases hu)
          exact ⟨v', w', vs, hrun, hvr, hvl, .inr hr2, hgr _, fun b hb => .inr (hbb b hb)⟩
theorem flatten_length {sz : Nat} : ∀ {rows : List (List T)}, (∀ r ∈ rows, r.length = sz) → rows.flatten.length = rows.length * sz
  | [], _ => by simp
  | r :: rs, h => by
    have := flatten_length (rows := rs) (sz := sz) fun x hx => h x (by simp [hx])
    simp [this, h r (by simp), Nat.add_mul]; omega

/-- An append to an array, or to a slice without room: the array afterwards. -/
theorem append_put {base : Nat} {M : Nat → Prop} {w0 : World} (hO : RelO base W M w0 objs w L) {r : Nat} {ver ver' e sz : Nat} {rows ys : List (List T)} (hsz : 0 < sz)
    {v v' : Value} {w' : World} {xs vs : List Value} (hrl : ∀ x ∈ rows ++ ys, x.length = sz)
    (hold : (objs r = none ∧ rows = [] ∧ capBlock v = none) ∨ (objs r = some (.arr ver e sz rows) ∧ L.sl r = v ∧ ver < ver'))
    (hxs : RelL w (WW W objs L) rows.flatten xs) (hvs : RelL w (WW W objs L) ys.flatten vs)
    (hnew : (rows.length + ys.length = 0 ∧ ∃ a : Option Addr, v' = .slice a 0 0) ∨ ∃ g cap cur, v' = .slice (some ⟨g, 0, none⟩) (rows.length + ys.length) cap ∧ 0 < cap ∧ w'.heap[g]? = some (.cells cur e (0, 0)) ∧ rows.length + ys.length ≤ cap ∧ cap ≤ maxLen ∧ cur.size = cap * sz ∧
          cur.toList.take ((rows.length + ys.length) * sz) = xs ++ vs)
    (hgr : w.grownBy w' (capBlock v)) (hbb : ∀ b, capBlock v' = some b → capBlock v = some b ∨ w.heap.size ≤ b) :
    RelO base W M w0 (putO objs (some (r, .arr ver' e sz (rows ++ ys)))) w' (L.setSl r v') ∧ Adv W objs L w (putO objs (some (r, .arr ver' e sz (rows ++ ys)))) (L.setSl r v') w' := by
  have hreach : ∀ g, capBlock v = some g → base ≤ g ∨ M g := fun g hg => by
    rcases hold with ⟨_, _, h⟩ | ⟨ho, hv, _⟩
    · rw [hg] at h; cases h
    · subst hv; exact (hO.ob r _ ho).reach (by simpa [Loc.own] using hg)
  have hle : base ≤ w.heap.size := Nat.le_trans hO.fr.size0 hO.fr.size
  have hfr : Fr base M w0 w' := hO.fr.trans ⟨hgr.os, hgr.tape, hgr.output, hle, hgr.size, fun k hk hm => hgr.block k (by omega) fun x => by
    rcases hreach k x.symm with h | h
    · omega
    · exact hm h⟩
  refine RelO.put hO hfr hgr.size (fun x hx => ⟨rfl, by simp [Loc.setSl, hx]⟩) rfl (fun b hlt hb => hgr.block b hlt fun x => ?_) (fun b hb => ?_) (fun cs hc => ?_) (fun ver2 e2 sz2 rows2 hc => ?_) (fun adv => ?_)
  · rcases hold with ⟨_, _, h⟩ | ⟨ho, hv, _⟩
    · rw [h] at x; cases x
    · exact hb _ ho (by simp [Loc.own, hv, ← x])
  · simp only [Loc.own, Loc.setSl, if_true] at hb
    rcases hbb b hb with h | h
    · rcases hold with ⟨_, _, h2⟩ | ⟨ho, hv, _⟩
      · rw [h] at h2; cases h2
      · exact .inl ⟨_, ho, by simp [Loc.own, hv, h]⟩
    · exact .inr h
  · rcases hold with ⟨h, _⟩ | ⟨h, _⟩ <;> rw [hc] at h <;> cases h
  · rcases hold with ⟨h, _⟩ | ⟨h, _, hlt⟩
    · rw [hc] at h; cases h
    · rw [hc] at h
      cases h
      exact ⟨ver', e, sz, _, rfl, by omega, fun x => by omega⟩
  · refine ⟨hsz, hrl, fun g hg => ?_, ?_⟩
    · simp only [Loc.setSl, if_true] at hg
      rcases hbb g hg with h | h
      · exact hreach g h
      · exact .inl (Nat.le_trans hle h)
    · simp only [Loc.setSl, if_true, List.length_append]
      rcases hnew with ⟨h0, ha⟩ | ⟨g, cap, cur, hv, hp, hg, h1, h2, h3, h4⟩
      · refine .inl ⟨?_, ha⟩
        have h1 : rows = [] := List.eq_nil_of_length_eq_zero (by omega)
        have h2 : ys = [] := List.eq_nil_of_length_eq_zero (by omega)
        simp [h1, h2]
      · refine .inr ⟨g, cap, cur, hv, hp, hg, h1, h2, h3, ?_⟩
        rw [h4, List.flatten_append]
        exact RelL.append (RelL.keep adv.keeps.toKeepsC adv.sub _ _ hxs) (RelL.keep adv.keeps.toKeepsC adv.sub _ _ hvs)

theorem append_sound {P : Program} {base : Nat} {M : Nat → Prop} {w0 : World} (hO : RelO base W M w0 objs w L) {t ty e : TypeId} {i : TypeInfo} {z : Value} (ht : P.underlying t = some (.slice e)) (hi : P.info? e = some i) (hz : i.zero = some z) (hzs : z.cells.size = i.size) (hsz : 0 < i.size)
    {name : Nat} (hname : objs name = none) {x y : DV} {xv yv : Value} (hx : RelD w W objs L x xv) (hy : RelD w W objs L y yv) (hok : (appendSem e i.size i.bytes name objs x y).ok) :
    ∃ v w' L', (Builtin.append_ #[t, t] ty #[xv, yv]).run P w = .ok v w' ∧ RelO base W M w0 (putO objs (appendSem e i.size i.bytes name objs x y).put) w' L' ∧
      Adv W objs L w (putO objs (appendSem e i.size i.bytes name objs x y).put) L' w' ∧ RelD w' W (putO objs (appendSem e i.size i.bytes name objs x y).put) L' (appendSem e i.size i.bytes name objs x y).val v := by
  unfold appendSem at hok ⊢
  cases hs : srcRows objs y with
  | none => simp [hs, bad] at hok
  | some ys =>
    simp only [hs] at hok ⊢
    have hyw : ∀ b o, RelRows w (WW W objs L) i.size b o ys → ∃ vs, vs.length = ys.length * i.size ∧ RelL w (WW W objs L) ys.flatten vs ∧ ∀ j v, vs[j]? = some v → w.cell? ⟨b, o + j, none⟩ = some v := fun b o h => RelRows.flatten h
    cases x with
    | nil0 =>
      simp only at hok ⊢
      have hx' := hx
      simp only [RelD] at hx'
      obtain ⟨a, rfl⟩ := hx'
      obtain ⟨v', w', vs, hrun, hvr, hvl, hnew, hgr, hbb⟩ := run_append_any (n := 0) (xs := []) ht hi hz rfl hzs (.inl ⟨rfl, rfl, a, rfl⟩) (ty := ty) (src_sound hO hy hs hok.1) hyw (by simpa using hok.2)
      have hcb : capBlock (.slice a 0 0) = none := by cases a <;> simp [capBlock]
      have := append_put hO (r := name) (ver := 0) (ver' := 0) (rows := []) (ys := ys) hsz (by simpa using hok.1) (.inl ⟨hname, rfl, hcb⟩) (xs := []) (by simp [RelL]) hvr (by simpa using hnew) hgr hbb
      refine ⟨v', w', _, hrun, by simpa using this.1, by simpa using this.2, ?_⟩
      simp only [RelD]
      refine ⟨?_, 0, e, i.size, ys, by simp [putO], Nat.le_refl _, fun _ => by simp [Loc.setSl]⟩
      rcases hnew with ⟨_, a, rfl⟩ | ⟨g, cap, cur, rfl, _⟩ <;> exact ⟨_, _, _, rfl⟩
    | aref r ver =>
      cases ho : objs r with
      | none => simp [ho, bad] at hok
      | some o =>
        cases o with
        | box cs => simp [ho, bad] at hok
        | arr ver' e' sz' rows =>
          simp only [ho] at hok ⊢
          obtain ⟨rfl, rfl, rfl, hl, hroom⟩ := hok
          have hx' := hx
          simp only [RelD] at hx'
          obtain ⟨_, ver2, e2, sz2, rows2, ho2, _, hv2⟩ := hx'
          rw [ho] at ho2
          cases ho2
          have hv := hv2 rfl
          have hob := hO.ob r _ ho
          obtain ⟨_, hrows, hm, hal⟩ := hob
          have hown : ∃ xs, RelL w (WW W objs L) rows.flatten xs ∧ ((rows.length = 0 ∧ xs = [] ∧ ∃ a : Option Addr, xv = .slice a 0 0) ∨ ∃ g cap cur, xv = .slice (some ⟨g, 0, none⟩) rows.length cap ∧ 0 < cap ∧ w.heap[g]? = some (.cells cur e' (0, 0)) ∧ rows.length ≤ cap ∧ cap ≤ maxLen ∧ cur.size = cap * i.size ∧ cur.toList.take (rows.length * i.size) = xs) := by
            rcases hal with ⟨rfl, a, ha⟩ | ⟨g, cap, cur, h1, h2, h3, h4, h5, h6, h7⟩
            · exact ⟨[], by simp [RelL], .inl ⟨rfl, rfl, a, by rw [hv, ha]⟩⟩
            · exact ⟨_, h7, .inr ⟨g, cap, cur, by rw [hv, h1], h2, h3, h4, h5, h6, rfl⟩⟩
          obtain ⟨xs, hxr, hown⟩ := hown
          obtain ⟨v', w', vs, hrun, hvr, hvl, hnew, hgr, hbb⟩ := run_append_any ht hi hz rfl hzs hown (ty := ty) (src_sound hO hy hs hl) hyw hroom
          have := append_put hO (r := r) (ver := ver) (ver' := ver + 1) (rows := rows) (ys := ys) hsz (fun x hx => (List.mem_append.1 hx).elim (hrows x) (hl x)) (.inr ⟨ho, hv.symm, by omega⟩) hxr hvr hnew hgr hbb
          refine ⟨v', w', _, hrun, this.1, this.2, ?_⟩
          simp only [RelD]
          refine ⟨?_, ver + 1, e', i.size, rows ++ ys, by simp [putO], Nat.le_refl _, fun _ => by simp [Loc.setSl]⟩
          rcases hnew with ⟨_, a, rfl⟩ | ⟨g, cap, cur, rfl, _⟩ <;> exact ⟨_, _, _, rfl⟩
    | _ => simp [bad] at hok

theorem getElem?_flatten_replicate {α : Type} (l : List α) : ∀ (n j : Nat), j < n * l.length → (List.replicate n l).flatten[j]? = l[j % l.length]?
  | 0, j, h => by simp at h
  | n + 1, j, h => by
    simp only [List.replicate_succ, List.flatten_cons]
    by_cases hj : j < l.length
    · rw [List.getElem?_append_left hj, Nat.mod_eq_of_lt hj]
    · rw [List.getElem?_append_right (by omega), getElem?_flatten_replicate l n (j - l.length) (by rw [Nat.add_mul] at h; omega)]
      rw [Nat.mod_eq_sub_mod (a := j) (by omega)]
theorem madeCells_eq (z : Array Value) (n : Nat) : (madeCells z (n * z.size)).toList = (List.replicate n z.toList).flatten := by
  apply List.ext_getElem?
  intro j
  by_cases hj : j < n * z.size
  · have hz : 0 < z.size := by
      rcases Nat.eq_zero_or_pos z.size with h | h
      · rw [h] at hj; simp at hj
      · exact h
    rw [getElem?_flatten_replicate z.toList n j (by simpa using hj)]
    have hm := Nat.mod_lt j hz
    simp [madeCells, hj, hm]
  · rw [List.getElem?_eq_none (by simp [size_madeCells]; omega), List.getElem?_eq_none (by simp; omega)]
theorem relL_replicate {zero : List T} {zs : List Value} (h : RelL w W zero zs) : ∀ n, RelL w W (List.replicate n zero).flatten (List.replicate n zs).flatten
  | 0 => by simp [RelL]
  | n + 1 => by simpa [List.replicate_succ] using RelL.append h (relL_replicate h n)

/-- A new array. -/
theorem new_arr {base : Nat} {M : Nat → Prop} {w0 : World} (hO : RelO base W M w0 objs w L) {r : Nat} (hr : objs r = none) {e sz : Nat} {rows : List (List T)} (hsz : 0 < sz) (hrl : ∀ x ∈ rows, x.length = sz) {c : Array Value} (hcs : c.size = rows.length * sz)
    (hc : RelL w (WW W objs L) rows.flatten c.toList) (hmax : rows.length ≤ maxLen) :
    RelO base W M w0 (putO objs (some (r, .arr 0 e sz rows))) (w.alloc (.cells c e)) (L.setSl r (.slice (some ⟨w.heap.size, 0, none⟩) rows.length rows.length)) ∧
      Adv W objs L w (putO objs (some (r, .arr 0 e sz rows))) (L.setSl r (.slice (some ⟨w.heap.size, 0, none⟩) rows.length rows.length)) (w.alloc (.cells c e)) := by
  have hb := below_alloc (w := w) (.cells c e)
  refine RelO.put hO (fr_below hO.fr hb) hb.size (fun x hx => ⟨rfl, by simp [Loc.setSl, hx]⟩) rfl (fun b hlt _ => hb.block b hlt) (fun b h => .inr ?_)
    (fun cs' h => by rw [hr] at h; cases h) (fun _ _ _ _ h => by rw [hr] at h; cases h) (fun adv => ?_)
  · simp only [Loc.own, Loc.setSl, if_true, capBlock] at h
    split at h
    · cases h
    · simp only [Option.some.injEq] at h
      omega
  · refine ⟨hsz, hrl, fun g hg => ?_, ?_⟩
    · simp only [Loc.setSl, if_true, capBlock] at hg
      split at hg
      · cases hg
      · simp only [Option.some.injEq] at hg
        subst hg
        exact .inl (Nat.le_trans hO.fr.size0 hO.fr.size)
    · simp only [Loc.setSl, if_true]
      by_cases h0 : rows.length = 0
      · refine .inl ⟨List.eq_nil_of_length_eq_zero h0, some ⟨w.heap.size, 0, none⟩, by rw [h0]⟩
      · refine .inr ⟨w.heap.size, rows.length, c, rfl, by omega, heap_alloc_new w _, Nat.le_refl _, hmax, hcs, ?_⟩
        rw [List.take_of_length_le (by simp [hcs])]
        exact RelL.keep adv.keeps.toKeepsC adv.sub _ _ hc

theorem make_sound {P : Program} {base : Nat} {M : Nat → Prop} {w0 : World} (hO : RelO base W M w0 objs w L) {t e : TypeId} {i : TypeInfo} {z : Value} (ht : P.underlying t = some (.slice e)) (hi : P.info? e = some i) (hz : i.zero = some z) (hsz : 0 < i.size)
    {zero : List T} (hzero : z.cells.toList.mapM constT = some zero) {name : Nat} (hname : objs name = none) {x : DV} {xv : Value} (hx : RelD w W objs L x xv) (hok : (makeSem e i.size i.bytes zero name x).ok) :
    ∃ v w' L', (Instr.makeSlice t xv xv).run P w = .ok v w' ∧ RelO base W M w0 (putO objs (makeSem e i.size i.bytes zero name x).put) w' L' ∧
      Adv W objs L w (putO objs (makeSem e i.size i.bytes zero name x).put) L' w' ∧ RelD w' W (putO objs (makeSem e i.size i.bytes zero name x).put) L' (makeSem e i.size i.bytes zero name x).val v := by
  cases x with
  | v t' =>
    cases t' with
    | int k n =>
      simp only [RelD, RelT] at hx
      subst hx
      simp only [makeSem] at hok ⊢
      obtain ⟨h0, hzl, hb, hm⟩ := hok
      have hzz := mapM_constT_rel (w := w) (W := WW W objs L) hzero
      have hzs : z.cells.size = i.size := by have := RelL.length hzz; simpa [hzl] using this
      have hbi : (i.bytes : Int) * n ≤ 281474976710656 := by
        have e : (i.bytes : Int) * n = ((n.toNat * i.bytes : Nat) : Int) := by
          rw [Int.natCast_mul, Int.toNat_of_nonneg h0, Int.mul_comm]
        rw [e]; omega
      have hrun := run_make (P := P) w t e i z ht hi hz k k n n h0 (Int.le_refl _) hbi (by omega)
      have hc : (madeCells z.cells (n.toNat * i.size)).toList = (List.replicate n.toNat z.cells.toList).flatten := by rw [← hzs]; exact madeCells_eq _ _
      have := new_arr hO (e := e) hname (rows := List.replicate n.toNat zero) hsz (fun x hx => by rw [List.eq_of_mem_replicate hx]; exact hzl) (c := madeCells z.cells (n.toNat * i.size)) (by simp [size_madeCells]) (by rw [hc]; exact relL_replicate hzz _) (by simp only [List.length_replicate, maxLen]; omega)
      simp only [List.length_replicate] at this
      refine ⟨_, _, _, hrun, this.1, this.2, ?_⟩
      simp only [RelD]
      exact ⟨⟨_, _, _, rfl⟩, 0, e, i.size, List.replicate n.toNat zero, by simp [putO], Nat.le_refl _, fun _ => by simp [Loc.setSl]⟩
    | _ => simp [makeSem, bad] at hok
  | _ => simp [makeSem, bad] at hok
end
end Go.DM
