/- The D-machine, part E: stores, new objects, appends: each does in the model what the machine says. Conditions: none. -/
import Derived.Test.YtljcdomdjgolkaaGreatDoorXaa
import Derived.Laws.StructEq
namespace Go.DM
open Go.RowKit
set_option linter.unusedSimpArgs false
set_option linter.unusedVariables false
set_option linter.unusedSectionVars false
variable [Laid]
section
variable {w : World} {W : Nat → Prop} {objs : Obs} {L : Loc}

theorem boxable_of_cells {y : DV} (h : cellables (cellsOf y)) (hl : (cellsOf y).length ≠ 0 ∨ True) : boxable y := by
  cases y with
  | undef => simp [cellsOf, cellables, cellable] at h
  | skip => simp [cellsOf, cellables, cellable] at h
  | v t =>
    cases t <;> simp_all [cellsOf, cellables, cellable, boxable, leafT]
  | tup ds => simp [cellsOf, cellables, cellable] at h
  | _ => simp [boxable]

theorem cellables_one {y : DV} {yv : Value} (hy : RelD w W objs L y yv) (h : cellables (cellsOf y)) : RelDs w W objs L (cellsOf y) yv.cells.toList :=
  RelD.cells hy (boxable_of_cells h (.inr trivial))

theorem RelDs.one {ds : List DV} : ∀ {vs : List Value}, RelDs w W objs L ds vs → ∀ v ∈ vs, v.oneCell' = true := by
  induction ds with
  | nil => intro vs h; simp only [RelDs] at h; subst h; simp
  | cons d ds ih =>
    intro vs h
    simp only [RelDs] at h
    obtain ⟨v, vs', rfl, h1, _, hr⟩ := h
    intro u hu
    rcases List.mem_cons.1 hu with rfl | hu
    · exact h1
    · exact ih hr u hu
theorem RelL.one {ds : List T} : ∀ {vs : List Value}, RelL w W ds vs → ∀ v ∈ vs, v.oneCell' = true := by
  induction ds with
  | nil => intro vs h; simp only [RelL] at h; subst h; simp
  | cons d ds ih =>
    intro vs h
    simp only [RelL] at h
    obtain ⟨v, vs', rfl, h1, _, hr⟩ := h
    intro u hu
    rcases List.mem_cons.1 hu with rfl | hu
    · exact h1
    · exact ih hr u hu
theorem RelDs.splice {a b : List DV} {va vb : List Value} (off : Nat) (ha : RelDs w W objs L a va) (hb : RelDs w W objs L b vb) : RelDs w W objs L (splice a off b) (splice va off vb) := by
  unfold DM.splice
  rw [← RelDs.length hb]
  exact RelDs.append (RelDs.append (RelDs.take off ha) hb) (RelDs.drop _ ha)
theorem RelL.splice {a b : List T} {va vb : List Value} (off : Nat) (ha : RelL w W a va) (hb : RelL w W b vb) : RelL w W (splice a off b) (splice va off vb) := by
  unfold DM.splice
  rw [← RelL.length hb]
  exact RelL.append (RelL.append (RelL.take off ha) hb) (RelL.drop _ ha)

theorem fr_setRow {base : Nat} {M : Nat → Prop} {w0 : World} {g : Nat} (cs : Array Value) (h : Fr base M w0 w) (hg : base ≤ g ∨ M g) : Fr base M w0 (w.setRow g cs) :=
  ⟨h.os, h.tape, h.output, h.size0, by simpa using h.size, fun k hk hm => by
    rw [setRow_other w g k cs (by rintro rfl; rcases hg with h1 | h1; · omega
                                  exact hm h1)]
    exact h.block k hk hm, by simpa using h.drawn⟩

theorem store_run {P : Program} {t : TypeId} {i : TypeInfo} (hi : P.info? t = some i) {g o : Nat} {e : TypeId} {cur : Array Value} (hg : w.heap[g]? = some (.cells cur e (0, 0))) {yv : Value}
    (hl : yv.cells.size = i.size) (hfit : o + i.size ≤ cur.size) (h1 : ∀ v ∈ yv.cells.toList, v.oneCell' = true) :
    (Instr.storeAt t (.pointer (some ⟨g, o, none⟩)) yv).run P w = .ok () (w.setRow g (splice cur.toList o yv.cells.toList).toArray) := by
  have hs := run_storeCells_at P g o e yv.cells.toList 0 cur w hg (by simp [hl]; omega) h1
  simp only [Nat.add_zero] at hs
  simp only [Instr.storeAt, Instr.sureAddr, storeVar, Sem.run_bind, Sem.run_pure, Result.andThen_ok, run_sizeOf hi, hl, ne_eq, not_true_eq_false, if_false]
  exact hs

theorem store_box {P : Program} {base : Nat} {M : Nat → Prop} {w0 : World} (hO : RelO base W M w0 objs w L) {t : TypeId} {i : TypeInfo} (hi : P.info? t = some i)
    {r off : Nat} {cs : List DV} (hc : objs r = some (.box cs)) {y : DV} {yv : Value} (hy : RelD w W objs L y yv)
    (hn : (cellsOf y).length = i.size) (hfit : off + i.size ≤ cs.length) (hce : cellables (cellsOf y)) :
    ∃ w', (Instr.storeAt t (.pointer (some ⟨L.blk r, off, none⟩)) yv).run P w = .ok () w' ∧
      RelO base W M w0 (putO objs (some (r, .box (splice cs off (cellsOf y))))) w' L ∧ Adv W objs L w (putO objs (some (r, .box (splice cs off (cellsOf y))))) L w' := by
  obtain ⟨c, e, hh, hr, hm⟩ := hO.ob r _ hc
  have hys := cellables_one hy hce
  have hyl : yv.cells.size = i.size := by have := RelDs.length hys; simpa [hn] using this
  have hcl : c.size = cs.length := by simpa using RelDs.length hr
  refine ⟨_, store_run hi hh hyl (by omega) (RelDs.one hys), ?_⟩
  refine RelO.put hO (fr_setRow _ hO.fr hm) (by simp) (fun _ _ => ⟨rfl, rfl⟩) rfl (fun b _ hb => setRow_other w _ b _ (fun x => hb _ hc (by simp [Loc.own, x])))
    (fun b hb => .inl ⟨_, hc, hb⟩) (fun o' ho' _ => by rw [hc] at ho'; cases ho'; exact ⟨rfl, rfl⟩) (fun ver e sz rows h => by rw [hc] at h; cases h) (fun adv => ?_)
  refine ⟨_, e, setRow_heap w _ c _ e _ hh, ?_, hm⟩
  exact RelDs.splice off (RelDs.adv adv _ _ hr) (RelDs.adv adv _ _ hys)

theorem length_splice {α : Type} {l new : List α} {off : Nat} (h : off + new.length ≤ l.length) : (splice l off new).length = l.length := by
  simp [splice]; omega
theorem take_splice {α : Type} {l new : List α} {off n : Nat} (h : off + new.length ≤ n) (hn : n ≤ l.length) : (splice l off new).take n = splice (l.take n) off new := by
  unfold splice
  have e1 : List.take off (List.take n l) = List.take off l := by rw [List.take_take]; congr 1; omega
  have e2 : (List.take off l ++ new).length = off + new.length := by simp; omega
  rw [e1, List.drop_take, List.take_append, e2, List.take_of_length_le (by omega)]
theorem flatten_set {sz : Nat} : ∀ (rows : List (List T)) (i off : Nat) (new : List T), (∀ r ∈ rows, r.length = sz) → i < rows.length → off + new.length ≤ sz →
    (rows.set i (splice (rows.getD i []) off new)).flatten = splice rows.flatten (i * sz + off) new
  | [], i, _, _, _, h, _ => by simp at h
  | r :: rs, 0, off, new, hl, _, hf => by
    have hr : r.length = sz := hl r (by simp)
    simp only [List.getD_cons_zero, List.set_cons_zero, List.flatten_cons, splice, Nat.zero_mul, Nat.zero_add]
    rw [List.take_append_of_le_length (by omega), List.drop_append_of_le_length (by omega)]
    simp
  | r :: rs, i + 1, off, new, hl, h, hf => by
    have hr : r.length = sz := hl r (by simp)
    have ih := flatten_set rs i off new (fun x hx => hl x (by simp [hx])) (by simpa using h) hf
    simp only [List.getD_cons_succ, List.set_cons_succ, List.flatten_cons]
    rw [show ∀ (a b : List T), splice (a ++ b) ((i + 1) * sz + off) new = (a ++ b).take ((i + 1) * sz + off) ++ new ++ (a ++ b).drop ((i + 1) * sz + off + new.length) from fun _ _ => rfl]
    have e : (i + 1) * sz + off = r.length + (i * sz + off) := by rw [Nat.add_mul, hr]; omega
    rw [e, List.take_append, List.drop_append]
    have e1 : r.length + (i * sz + off) - r.length = i * sz + off := by omega
    have e2 : r.length + (i * sz + off) + new.length - r.length = i * sz + off + new.length := by omega
    rw [e1, e2, List.take_of_length_le (l := r) (by omega), List.drop_eq_nil_of_le (as := r) (by omega)]
    simp only [List.nil_append, List.append_assoc]
    rw [ih]
    simp only [splice, List.append_assoc]
theorem relT_of_pure {objs2 : Obs} {d : DV} {v : Value} (hp : pureCell d) (h : RelD w W objs L d v) : RelT w (WW W objs L) (tOf objs2 d) v := by
  cases d with
  | v t => simpa [tOf, RelD] using h
  | nil0 =>
    simp only [RelD] at h
    obtain ⟨a, rfl⟩ := h
    simp only [tOf, RelT]
    exact .inl ⟨trivial, a, 0, rfl⟩
  | _ => exact hp.elim
theorem relL_of_pure {objs2 : Obs} : ∀ {ds : List DV} {vs : List Value}, pureCells ds → RelDs w W objs L ds vs → RelL w (WW W objs L) (tOfs objs2 ds) vs
  | [], vs, _, h => by simpa [RelDs, RelL, tOfs] using h
  | d :: ds, vs, hp, h => by
    simp only [pureCells] at hp
    simp only [RelDs] at h
    obtain ⟨v, vs', rfl, h1, h2, hr⟩ := h
    simp only [tOfs, RelL]
    exact ⟨v, vs', rfl, h1, relT_of_pure hp.1 h2, relL_of_pure hp.2 hr⟩
theorem pure_cellables : ∀ {ds : List DV}, pureCells ds → cellables ds
  | [], _ => trivial
  | d :: ds, h => by
    simp only [pureCells] at h
    simp only [cellables]
    refine ⟨?_, pure_cellables h.2⟩
    have := h.1
    cases d <;> simp_all [pureCell, cellable]
theorem tOfs_length : ∀ (ds : List DV), (tOfs objs ds).length = ds.length
  | [] => rfl
  | _ :: ds => by simp [tOfs, tOfs_length ds]

theorem store_arr {P : Program} {base : Nat} {M : Nat → Prop} {w0 : World} (hO : RelO base W M w0 objs w L) {t : TypeId} {i : TypeInfo} (hi : P.info? t = some i)
    {r off ver e sz : Nat} {rows : List (List T)} {j : Int} {g : Nat} (hc : objs r = some (.arr ver e sz rows)) (hg : capBlock (L.sl r) = some g) (h0 : 0 ≤ j) (h1 : j < rows.length)
    {y : DV} {yv : Value} (hy : RelD w W objs L y yv) (hn : (cellsOf y).length = i.size) (hfit : off + i.size ≤ sz) (hce : pureCells (cellsOf y)) :
    ∃ w', (Instr.storeAt t (.pointer (some ⟨g, j.toNat * sz + off, none⟩)) yv).run P w = .ok () w' ∧
      RelO base W M w0 (putO objs (some (r, .arr ver e sz (rows.set j.toNat (splice (rowAt rows j) off (tOfs objs (cellsOf y))))))) w' L ∧
      Adv W objs L w (putO objs (some (r, .arr ver e sz (rows.set j.toNat (splice (rowAt rows j) off (tOfs objs (cellsOf y))))))) L w' := by
  have hob := hO.ob r _ hc
  obtain ⟨hsz, hrows, hm, hal⟩ := hob
  rcases hal with ⟨rfl, _⟩ | ⟨g', cap, cur, hv, hp, hh, hle, hcap, hcur, hrel⟩
  · simp at h1; omega
  · rw [hv] at hg
    simp only [capBlock, if_neg (Nat.pos_iff_ne_zero.1 hp), Option.some.injEq] at hg
    subst hg
    have hys := cellables_one hy (pure_cellables hce)
    have hyl : yv.cells.size = i.size := by have := RelDs.length hys; simpa [hn] using this
    have hj : j.toNat < rows.length := by omega
    have hjs : j.toNat * sz + sz ≤ rows.length * sz := by
      have := Nat.mul_le_mul_right sz (show j.toNat + 1 ≤ rows.length by omega)
      rwa [Nat.add_mul, Nat.one_mul] at this
    have hcs : rows.length * sz ≤ cap * sz := Nat.mul_le_mul_right sz hle
    have hnl : (tOfs objs (cellsOf y)).length = i.size := by rw [tOfs_length]; exact hn
    have hvl : yv.cells.toList.length = i.size := by simpa using hyl
    have hown : L.own r (.arr ver e sz rows) = some g' := by simp [Loc.own, hv, capBlock, Nat.pos_iff_ne_zero.1 hp]
    refine ⟨_, store_run hi hh hyl (by omega) (RelDs.one hys), ?_⟩
    refine RelO.put hO (fr_setRow _ hO.fr (hm g' (by simp [hv, capBlock, Nat.pos_iff_ne_zero.1 hp]))) (by simp) (fun _ _ => ⟨rfl, rfl⟩) rfl (fun b _ hb => setRow_other w _ b _ (fun x => hb _ hc (by rw [hown, x])))
      (fun b hb => .inl ⟨_, hc, hb⟩) (fun o' ho' hk => by rw [hc] at ho'; cases ho'; exact absurd rfl hk) (fun ver' e' sz' rows' h => ?_) (fun adv => ?_)
    · rw [hc] at h
      cases h
      exact ⟨ver, e, sz, _, rfl, Nat.le_refl _, fun _ => ⟨rfl, rfl, by simp⟩⟩
    · refine ⟨hsz, fun x hx => ?_, hm, .inr ⟨g', cap, _, by simpa using hv, hp, setRow_heap w _ cur _ e _ hh, by simpa using hle, hcap, ?_, ?_⟩⟩
      · rcases List.mem_or_eq_of_mem_set hx with hx | rfl
        · exact hrows x hx
        · rw [length_splice]
          · exact hrows _ (by rw [rowAt, List.getD, List.getElem?_eq_getElem hj]; simp)
          · have : (rowAt rows j).length = sz := hrows _ (by rw [rowAt, List.getD, List.getElem?_eq_getElem hj]; simp)
            omega
      · have := length_splice (l := cur.toList) (new := yv.cells.toList) (off := j.toNat * sz + off) (by simp only [Array.length_toList] at hvl ⊢; omega)
        simpa using this.trans (by simpa using hcur)
      · rw [show rowAt rows j = rows.getD j.toNat [] from rfl, flatten_set rows j.toNat off _ hrows hj (by omega)]
        simp only [List.length_set]
        have e1 : (splice cur.toList (j.toNat * sz + off) yv.cells.toList).toArray.toList.take (rows.length * sz) = splice (cur.toList.take (rows.length * sz)) (j.toNat * sz + off) yv.cells.toList := by
          rw [List.toList_toArray]
          exact take_splice (by omega) (by simp; omega)
        rw [e1]
        exact RelL.splice _ (RelL.keep adv.keeps.toKeepsC adv.sub _ _ hrel) (RelL.keep adv.keeps.toKeepsC adv.sub _ _ (relL_of_pure hce hys))
def Loc.setBlk (L : Loc) (r b : Nat) : Loc := ⟨fun x => if x = r then b else L.blk x, L.sl, L.yl⟩
def Loc.setSl (L : Loc) (r : Nat) (v : Value) : Loc := ⟨L.blk, fun x => if x = r then v else L.sl x, L.yl⟩

theorem fr_below {base : Nat} {M : Nat → Prop} {w0 w' : World} (h : Fr base M w0 w) (hb : BelD w.heap.size w w') : Fr base M w0 w' := by
  have hle : base ≤ w.heap.size := Nat.le_trans h.size0 h.size
  exact h.trans ⟨hb.os, hb.tape, hb.output, hle, hb.size, fun k hk _ => hb.block k (by omega), hb.drawn⟩

theorem below_alloc (o : Obj) : BelD w.heap.size w (w.alloc o) := ⟨(Below.refl _ _).alloc (Nat.le_refl _) _, Nat.le_refl _⟩

/-- A new box. -/
theorem new_box {base : Nat} {M : Nat → Prop} {w0 : World} (hO : RelO base W M w0 objs w L) {r : Nat} (hr : objs r = none) {cs : List DV} {c : Array Value} (e : TypeId) (hc : RelDs w W objs L cs c.toList) :
    RelO base W M w0 (putO objs (some (r, .box cs))) (w.alloc (.cells c e)) (L.setBlk r w.heap.size) ∧
      Adv W objs L w (putO objs (some (r, .box cs))) (L.setBlk r w.heap.size) (w.alloc (.cells c e)) := by
  have hb := below_alloc (w := w) (.cells c e)
  refine RelO.put hO (fr_below hO.fr hb) hb.size (fun x hx => ⟨by simp [Loc.setBlk, hx], rfl⟩) rfl (fun b hlt _ => hb.block b hlt) (fun b h => .inr ?_)
    (fun o' h _ => by rw [hr] at h; cases h) (fun _ _ _ _ h => by rw [hr] at h; cases h) (fun adv => ?_)
  · simp only [Loc.own, Loc.setBlk, if_true, Option.some.injEq] at h
    omega
  · refine ⟨c, e, ?_, RelDs.adv adv _ _ hc, .inl ?_⟩
    · simp only [Loc.setBlk, if_true]; exact heap_alloc_new w _
    · simp only [Loc.setBlk, if_true]; exact Nat.le_trans hO.fr.size0 hO.fr.size

theorem asl_rows {base : Nat} {M : Nat → Prop} {w0 : World} (hO : RelO base W M w0 objs w L) {r ver e sz lo n : Nat} {rows : List (List T)} {xv : Value} (hc : objs r = some (.arr ver e sz rows))
    (hx : lo + n ≤ rows.length ∧ ∃ p cap p2, L.sl r = .slice p rows.length cap ∧ xv = .slice p2 n (cap - lo) ∧ (lo < cap → p2 = p.map (·.add (lo * sz)))) :
    (n = 0 ∧ ∃ (a : Option Addr) (c : Nat), xv = .slice a 0 c) ∨ ∃ g c, capBlock (L.sl r) = some g ∧ xv = .slice (some ⟨g, lo * sz, none⟩) n c ∧ n ≤ c ∧ RelRows w (WW W objs L) sz g (lo * sz) ((rows.drop lo).take n) := by
  obtain ⟨hln, p, cap, p2, hsl, rfl, hp2⟩ := hx
  by_cases hn : n = 0
  · subst hn; exact .inl ⟨rfl, p2, _, rfl⟩
  · have hob := hO.ob r _ hc
    obtain ⟨_, hrows, hm, hal⟩ := hob
    rcases hal with ⟨rfl, a, ha⟩ | ⟨g, cap', cur, h1, h2, h3, h4, h5, h6, h7⟩
    · simp at hln; omega
    · have hcb : capBlock (L.sl r) = some g := by rw [h1]; simp [capBlock, Nat.pos_iff_ne_zero.1 h2]
      have hrr := ObOk.rows (hO.ob r _ hc) hcb
      rw [hsl] at h1
      simp only [Value.slice.injEq] at h1
      obtain ⟨rfl, _, rfl⟩ := h1
      have := hp2 (by omega)
      subst this
      refine .inr ⟨g, cap - lo, hcb, by simp [add_off], by omega, RelRows.of_rows _ _ fun j x hj => ?_⟩
      rw [List.getElem?_take] at hj
      split at hj
      · rw [List.getElem?_drop] at hj
        have := RelRows.row hrr hj
        rw [Nat.zero_add, Nat.add_mul] at this
        exact this
      · cases hj

/-- The source of an append. -/
structure SrcOk (w : World) (W' : Nat → Prop) (ys : List (List T)) (sz : Nat) (v : Value) : Prop where
  it : (ys = [] ∧ ∃ (a : Option Addr) (c : Nat), v = .slice a 0 c) ∨ ∃ b o c, v = .slice (some ⟨b, o, none⟩) ys.length c ∧ RelRows w W' sz b o ys

theorem src_sound {base : Nat} {M : Nat → Prop} {w0 : World} (hO : RelO base W M w0 objs w L) {y : DV} {yv : Value} {ys : List (List T)} {sz : Nat} (hy : RelD w W objs L y yv) (hs : srcRows objs y = some ys) (hl : ∀ r ∈ ys, r.length = sz) :
    SrcOk w (WW W objs L) ys sz yv := by
  cases y with
  | v t =>
    cases t with
    | sl rows =>
      simp only [srcRows, Option.some.injEq] at hs
      subst hs
      simp only [RelD, RelT] at hy
      rcases hy with hy | ⟨b, o, cap, sz', rfl, _, _, hc, hr⟩
      · exact ⟨.inl hy⟩
      · refine ⟨.inr ⟨b, o, cap, rfl, ?_⟩⟩
        match rows, hr with
        | [], _ => simp [RelRows]
        | r :: rs, hr =>
          have h1 := (RelRows.row hr (i := 0) (r := r) rfl).1
          have h2 := hl r (by simp)
          have : sz' = sz := by omega
          exact this ▸ hr
    | raw v =>
      unfold srcRows at hs
      split at hs <;> simp_all
      simp only [RelD, RelT] at hy
      exact ⟨.inl ⟨rfl, _, _, hy⟩⟩
    | _ => simp [srcRows] at hs
  | nil0 =>
    simp only [srcRows, Option.some.injEq] at hs
    subst hs
    simp only [RelD] at hy
    obtain ⟨a, rfl⟩ := hy
    exact ⟨.inl ⟨rfl, a, 0, rfl⟩⟩
  | aref r ver =>
    simp only [srcRows] at hs
    simp only [RelD] at hy
    obtain ⟨_, ver', e, sz', rows, ho, _, hx⟩ := hy
    rw [ho] at hs
    simp only at hs
    split at hs
    · rename_i hv
      simp only [Option.some.injEq] at hs
      subst hs
      have hob := hO.ob r _ ho
      obtain ⟨hsz, hrows, hm, hal⟩ := hob
      rw [hx hv]
      rcases hal with ⟨rfl, a, ha⟩ | ⟨g', cap, cur, hv', hp, hh, hle, hcap, hcur, hrel⟩
      · exact ⟨.inl ⟨rfl, a, 0, ha⟩⟩
      · have hrr := ObOk.rows (hO.ob r _ ho) (g := g') (by simp [hv', capBlock, Nat.pos_iff_ne_zero.1 hp])
        refine ⟨.inr ⟨g', 0, cap, hv', ?_⟩⟩
        match rows, hrr, hl, hrows with
        | [], _, _, _ => simp [RelRows]
        | r :: rs, hr, hl, hrows =>
          have h1 := hrows r (by simp)
          have h2 := hl r (by simp)
          have : sz' = sz := by omega
          exact this ▸ hr
    · cases hs
  | asl r ver lo n =>
    simp only [srcRows] at hs
    simp only [RelD] at hy
    obtain ⟨_, ver', e, sz', rows, ho, _, hx⟩ := hy
    rw [ho] at hs
    simp only at hs
    split at hs
    · rename_i hv
      subst hv
      simp only [Option.some.injEq] at hs
      subst hs
      have hln := (hx rfl).1
      have htl : ((rows.drop lo).take n).length = n := by rw [List.length_take, List.length_drop]; omega
      rcases asl_rows hO ho (hx rfl) with ⟨rfl, a, c, rfl⟩ | ⟨g, c, _, rfl, _, hr⟩
      · exact ⟨.inl ⟨by simp, a, c, rfl⟩⟩
      · refine ⟨.inr ⟨g, lo * sz', c, by rw [htl], ?_⟩⟩
        have hrows := (hO.ob r _ ho).2.1
        match hq : (rows.drop lo).take n, hr, hl with
        | [], _, _ => simp [RelRows]
        | q :: qs, hr, hl =>
          have h1 := hrows q (List.mem_of_mem_drop (List.mem_of_mem_take (by rw [hq]; simp)))
          have h2 := hl q (by simp)
          have : sz' = sz := by omega
          exact this ▸ hr
    · cases hs
  | _ => simp [srcRows] at hs

theorem run_append_zero {P : Program} (w : World) (t ty e : TypeId) (i : TypeInfo) (ht : P.underlying t = some (.slice e)) (hi : P.info? e = some i) (a b : Option Addr) (n cap c : Nat) (hn : n ≤ cap) :
    (Builtin.append_ #[t, t] ty #[.slice a n cap, .slice b 0 c]).run P w = .ok (.slice a n cap) w := by
  have hf : (Builtin.firstCells i.size 0 (.slice b 0 c)).run P w = .ok #[] w := by
    cases b <;> simp [Builtin.firstCells, loadCells, loadCellsFrom]
  cases a <;> simp [Builtin.append_, run_underlying ht, sizeOf, typeInfo, hi, Builtin.lenOf, hn, hf, storeCells]

theorem grown_owns {e sz : Nat} {z : Value} (hzs : z.cells.size = sz) {n m old : Nat} {xs vs : List Value} (hx : xs.length = n * sz) (hv : vs.length = m * sz) (h63 : n + m ≤ maxLen) :
    (w.drew.alloc (.cells (xs.toArray ++ vs.toArray ++ Builtin.zeroCells z.cells (grownCap w (n + m) old e - (n + m))) e)).ownsRow 0 e sz (.slice (some ⟨w.heap.size, 0, none⟩) (n + m) (grownCap w (n + m) old e)) (n + m) (xs ++ vs) ∧
      ∀ row, w.grownBy (w.drew.alloc (.cells (xs.toArray ++ vs.toArray ++ Builtin.zeroCells z.cells (grownCap w (n + m) old e - (n + m))) e)) row := by
  have hge := grownCap_ge w (n + m) old e
  have hcm : grownCap w (n + m) old e ≤ maxLen := grownCap_le_maxLen w (n + m) old e h63
  have hlen : (xs ++ vs).length = (n + m) * sz := by rw [List.length_append, hx, hv, Nat.add_mul]
  refine ⟨⟨hlen, .inr ⟨w.heap.size, _, _, rfl, Nat.zero_le _, heap_alloc_new w.drew _, hge, hcm, ?_, ?_⟩⟩, fun row => ⟨rfl, rfl, rfl, by simp, fun k hk _ => heap_alloc_old w.drew _ k hk⟩⟩
  · simp only [Array.size_append, List.size_toArray, size_zeroCells, hzs, hx, hv, ← Nat.add_mul]
    congr 1
    omega
  · simp only [Array.toList_append, List.append_assoc]
    rw [← List.append_assoc, ← hlen]
    exact List.take_left

theorem putO_self {r : Nat} {o : Ob} (h : objs r = some o) : putO objs (some (r, o)) = objs := by
  funext x
  simp only [putO]
  split
  · rename_i e; rw [e, h]
  · rfl
theorem flatten_splice {sz : Nat} {rows new : List (List T)} {lo : Nat} (hr : ∀ r ∈ rows, r.length = sz) (hn : ∀ r ∈ new, r.length = sz) (h : lo + new.length ≤ rows.length) : (splice rows lo new).flatten = splice rows.flatten (lo * sz) new.flatten := by
  have key : ∀ (l : List (List T)), (∀ r ∈ l, r.length = sz) → l.flatten.length = l.length * sz := by
    intro l
    induction l with
    | nil => simp
    | cons r rs ih => intro h; simp [ih (fun x hx => h x (by simp [hx])), h r (by simp), Nat.add_mul]; omega
  have tk : ∀ (k : Nat), k ≤ rows.length → (rows.take k).flatten = rows.flatten.take (k * sz) ∧ (rows.drop k).flatten = rows.flatten.drop (k * sz) := by
    intro k hk
    have h8 : rows.flatten = (rows.take k).flatten ++ (rows.drop k).flatten := by rw [← List.flatten_append, List.take_append_drop]
    have h9 : (rows.take k).flatten.length = k * sz := by rw [key _ (fun r h => hr r (List.mem_of_mem_take h)), List.length_take]; congr 1; omega
    rw [h8, List.take_left' h9, List.drop_left' h9]
    exact ⟨rfl, rfl⟩
  unfold splice
  rw [List.flatten_append, List.flatten_append, (tk lo (by omega)).1, (tk _ h).2, key new hn, Nat.add_mul]
theorem copy_core {P : Program} {base : Nat} {M : Nat → Prop} {w0 : World} (hO : RelO base W M w0 objs w L) {t t' ty e0 : TypeId} {i : TypeInfo} (ht : P.underlying t = some (.slice e0)) (hi : P.info? e0 = some i)
    {r ver e lo n : Nat} {rows : List (List T)} (hc : objs r = some (.arr ver e i.size rows)) (hln : lo + n ≤ rows.length) {xv yv : Value}
    (hdst : (n = 0 ∧ ∃ (a : Option Addr) (c : Nat), xv = .slice a 0 c) ∨ ∃ g c, capBlock (L.sl r) = some g ∧ xv = .slice (some ⟨g, lo * i.size, none⟩) n c) {ys : List (List T)} (hs : SrcOk w (WW W objs L) ys i.size yv) (hyl : ∀ r ∈ ys, r.length = i.size) :
    ∃ w', (Builtin.copy_ #[t, t'] ty #[xv, yv]).run P w = .ok (goInt (min ys.length n : Nat)) w' ∧
      RelO base W M w0 (putO objs (some (r, .arr ver e i.size (splice rows lo (ys.take n))))) w' L ∧ Adv W objs L w (putO objs (some (r, .arr ver e i.size (splice rows lo (ys.take n))))) L w' := by
  have stay : ys.take n = [] → RelO base W M w0 (putO objs (some (r, .arr ver e i.size (splice rows lo (ys.take n))))) w L ∧ Adv W objs L w (putO objs (some (r, .arr ver e i.size (splice rows lo (ys.take n))))) L w := by
    intro h0
    have e1 : splice rows lo (ys.take n) = rows := by rw [h0]; simp [splice]
    rw [e1, putO_self hc]
    exact ⟨hO, Adv.refl_of_keeps (Keeps.refl _ _)⟩
  have hlen : ∃ (p : Option Addr) (c : Nat), yv = .slice p ys.length c := by
    rcases hs.it with ⟨rfl, a, c, rfl⟩ | ⟨b, o, c, rfl, _⟩
    · exact ⟨a, c, rfl⟩
    · exact ⟨_, c, rfl⟩
  have hf0 : ∀ (v : Value) (p : Option Addr) (m c : Nat), v = .slice p m c → (Builtin.firstCells i.size 0 v).run P w = .ok #[] w := by
    rintro v p m c rfl
    cases p <;> simp [Builtin.firstCells, loadCells, loadCellsFrom]
  obtain ⟨yp, yc, hyv⟩ := hlen
  rcases hdst with ⟨rfl, a, c, rfl⟩ | ⟨g, c, hg, rfl⟩
  · refine ⟨w, ?_, stay (by simp)⟩
    have := hf0 yv yp _ yc hyv
    subst hyv
    cases a <;> simp [Builtin.copy_, run_underlying ht, Builtin.lenOf, run_sizeOf hi, this, storeCells]
  · by_cases hm : min ys.length n = 0
    · refine ⟨w, ?_, stay ?_⟩
      · have := hf0 yv yp _ yc hyv
        subst hyv
        have hm' : Nat.min ys.length n = 0 := hm
        simp [Builtin.copy_, run_underlying ht, Builtin.lenOf, run_sizeOf hi, hm, hm', this, storeCells]
      · by_cases h : ys.length = 0
        · rw [List.eq_nil_of_length_eq_zero h]; simp
        · rw [show n = 0 by omega]; simp
    · rcases hs.it with ⟨rfl, _⟩ | ⟨b, o, c', hyv2, hr⟩
      · simp at hm
      · have hob := hO.ob r _ hc
        obtain ⟨hsz, hrows, hmm, hal⟩ := hob
        rcases hal with ⟨rfl, _⟩ | ⟨g', cap, cur, h1, h2, h3, h4, h5, h6, h7⟩
        · simp at hln; omega
        · have hcb : capBlock (L.sl r) = some g' := by rw [h1]; simp [capBlock, Nat.pos_iff_ne_zero.1 h2]
          rw [hcb] at hg
          cases hg
          obtain ⟨vs, hvl, hvr, hvc⟩ := RelRows.flatten hr
          have hm2 : min ys.length n * i.size ≤ vs.length := by rw [hvl]; exact Nat.mul_le_mul_right _ (Nat.min_le_left _ _)
          have htk : (ys.take n).length = min ys.length n := by rw [List.length_take, Nat.min_comm]
          have htl : (vs.take (min ys.length n * i.size)).length = min ys.length n * i.size := by rw [List.length_take]; omega
          have hload : (Builtin.firstCells i.size (min ys.length n) yv).run P w = .ok (vs.take (min ys.length n * i.size)).toArray w := by
            rw [hyv2]
            simp only [Builtin.firstCells]
            have := run_loadRow (P := P) (w := w) (b := b) (o := o) (vs := vs.take (min ys.length n * i.size)) (fun j v hj => hvc j v (by
              rw [List.getElem?_take] at hj
              split at hj
              · exact hj
              · cases hj))
            rw [htl] at this
            exact this
          have hfl : (ys.take n).flatten = ys.flatten.take (min ys.length n * i.size) := by
            have h8 : ys.flatten = (ys.take n).flatten ++ (ys.drop n).flatten := by rw [← List.flatten_append, List.take_append_drop]
            rw [h8, List.take_left']
            have key : ∀ (l : List (List T)), (∀ r ∈ l, r.length = i.size) → l.flatten.length = l.length * i.size := by
              intro l
              induction l with
              | nil => simp
              | cons r rs ih => intro h; simp [ih (fun x hx => h x (by simp [hx])), h r (by simp), Nat.add_mul]; omega
            rw [key _ (fun r h => hyl r (List.mem_of_mem_take h)), htk]
          have hfit : lo * i.size + min ys.length n * i.size ≤ rows.length * i.size := by
            rw [← Nat.add_mul]; exact Nat.mul_le_mul_right _ (by omega)
          have hcapr : rows.length * i.size ≤ cap * i.size := Nat.mul_le_mul_right _ h4
          have hrl : RelL w (WW W objs L) (ys.take n).flatten (vs.take (min ys.length n * i.size)) := by rw [hfl]; exact RelL.take _ hvr
          have hst := run_storeCells_at P g (lo * i.size) e (vs.take (min ys.length n * i.size)) 0 cur w h3 (by rw [htl, h6]; omega) (RelL.one hrl)
          have hown : L.own r (.arr ver e i.size rows) = some g := hcb
          refine ⟨w.setRow g (splice cur.toList (lo * i.size) (vs.take (min ys.length n * i.size))).toArray, ?_, ?_⟩
          · have hm' : Nat.min ys.length n = min ys.length n := rfl
            rw [hyv2] at hload ⊢
            simp only [Builtin.copy_, run_underlying ht, Builtin.lenOf, run_sizeOf hi, Sem.run_bind, Sem.run_pure, Result.andThen_ok, hm', hload]
            simp only [Nat.add_zero] at hst
            simp [run_underlying ht, run_sizeOf hi, hload, hst, splice]
          · refine RelO.put hO (fr_setRow _ hO.fr (hmm g hcb)) (by simp) (fun _ _ => ⟨rfl, rfl⟩) rfl (fun b _ hb => setRow_other w _ b _ (fun x => hb _ hc (by rw [hown, x])))
              (fun b hb => .inl ⟨_, hc, hb⟩) (fun o' ho' hk => by rw [hc] at ho'; cases ho'; exact absurd rfl hk) (fun ver' e' sz' rows' h => ?_) (fun adv => ?_)
            · rw [hc] at h
              cases h
              exact ⟨ver, e, i.size, _, rfl, Nat.le_refl _, fun _ => ⟨rfl, rfl, length_splice (by rw [htk]; omega)⟩⟩
            · have hl2 : (splice rows lo (ys.take n)).length = rows.length := length_splice (by rw [htk]; omega)
              refine ⟨hsz, fun x hx => ?_, hmm, .inr ⟨g, cap, _, by rw [hl2]; exact h1, h2, setRow_heap w _ cur _ e _ h3, by rw [hl2]; exact h4, h5, ?_, ?_⟩⟩
              · simp only [splice, List.mem_append] at hx
                rcases hx with (hx | hx) | hx
                · exact hrows x (List.mem_of_mem_take hx)
                · exact hyl x (List.mem_of_mem_take hx)
                · exact hrows x (List.mem_of_mem_drop hx)
              · have := length_splice (l := cur.toList) (new := vs.take (min ys.length n * i.size)) (off := lo * i.size) (by rw [htl]; simp only [Array.length_toList, h6]; omega)
                simpa using this.trans (by simpa using h6)
              · rw [hl2, flatten_splice hrows (fun x hx => hyl x (List.mem_of_mem_take hx)) (by rw [htk]; omega)]
                rw [List.toList_toArray, take_splice (by rw [htl]; omega) (by simp only [Array.length_toList, h6]; omega)]
                exact RelL.splice _ (RelL.keep adv.keeps.toKeepsC adv.sub _ _ h7) (RelL.keep adv.keeps.toKeepsC adv.sub _ _ hrl)

/-- What an append leaves: a slice over a row of its own. -/
theorem run_append_any {P : Program} {t ty e : TypeId} {i : TypeInfo} {z : Value} {sz : Nat} (ht : P.underlying t = some (.slice e)) (hi : P.info? e = some i) (hz : i.zero = some z) (hsize : i.size = sz) (hzs : z.cells.size = sz)
    {W' : Nat → Prop} {v : Value} {n : Nat} {xs : List Value} (hown : (n = 0 ∧ xs = [] ∧ ∃ a : Option Addr, v = .slice a 0 0) ∨ ∃ g cap cur, v = .slice (some ⟨g, 0, none⟩) n cap ∧ 0 < cap ∧ w.heap[g]? = some (.cells cur e (0, 0)) ∧ n ≤ cap ∧ cap ≤ maxLen ∧ cur.size = cap * sz ∧ cur.toList.take (n * sz) = xs)
    {ys : List (List T)} {yv : Value} (hs : SrcOk w W' ys sz yv) (hyw : ∀ b o, RelRows w W' sz b o ys → ∃ vs, vs.length = ys.length * sz ∧ RelL w W' ys.flatten vs ∧ ∀ j v, vs[j]? = some v → w.cell? ⟨b, o + j, none⟩ = some v) (hroom : roomOk i.bytes (n + ys.length)) :
    ∃ v' w' vs, (Builtin.append_ #[t, t] ty #[v, yv]).run P w = .ok v' w' ∧ RelL w W' ys.flatten vs ∧ vs.length = ys.length * sz ∧
      ((n + ys.length = 0 ∧ ∃ a : Option Addr, v' = .slice a 0 0) ∨ ∃ g cap cur, v' = .slice (some ⟨g, 0, none⟩) (n + ys.length) cap ∧ 0 < cap ∧ w'.heap[g]? = some (.cells cur e (0, 0)) ∧ n + ys.length ≤ cap ∧ cap ≤ maxLen ∧ cur.size = cap * sz ∧
          cur.toList.take ((n + ys.length) * sz) = xs ++ vs) ∧
      w.grownBy w' (capBlock v) ∧ (∀ b, capBlock v' = some b → capBlock v = some b ∨ w.heap.size ≤ b) ∧ w.drawn ≤ w'.drawn := by
  have h63 : n + ys.length ≤ maxLen := by have := hroom.2; simp only [maxLen]; omega
  have h63i : ((n + ys.length : Nat) : Int) ≤ 9223372036854775807 := by have := hroom.2; omega
  have gself : w.grownBy w (capBlock v) := ⟨rfl, rfl, rfl, Nat.le_refl _, fun _ _ _ => rfl⟩
  rcases hs.it with ⟨rfl, b, c, rfl⟩ | ⟨b, o, c, rfl, hr⟩
  · rcases hown with ⟨rfl, rfl, a, rfl⟩ | ⟨g, cap, cur, rfl, hp, hg, h1, h2, h3, h4⟩
    · exact ⟨_, w, [], run_append_zero w t ty e i ht hi a b 0 0 c (Nat.le_refl _), by simp [RelL], by simp, .inl ⟨rfl, a, rfl⟩, gself, fun b hb => .inl hb, Nat.le_refl _⟩
    · exact ⟨_, w, [], run_append_zero w t ty e i ht hi _ b n cap c h1, by simp [RelL], by simp, .inr ⟨g, cap, cur, rfl, hp, hg, h1, h2, h3, by simpa using h4⟩, gself, fun b hb => .inl hb, Nat.le_refl _⟩
  · obtain ⟨vs, hvl, hvr, hvc⟩ := hyw b o hr
    have hvc' : ∀ j v, vs[j]? = some v → w.cell? ((⟨b, o, none⟩ : Addr).add j) = some v := fun j v h => by rw [add_off]; exact hvc j v h
    by_cases hy0 : ys.length = 0
    · have : ys = [] := List.eq_nil_of_length_eq_zero hy0
      subst this
      rcases hown with ⟨rfl, rfl, a, rfl⟩ | ⟨g, cap, cur, rfl, hp, hg, h1, h2, h3, h4⟩
      · exact ⟨_, w, [], run_append_zero w t ty e i ht hi a _ 0 0 c (Nat.le_refl _), by simp [RelL], by simp, .inl ⟨rfl, a, rfl⟩, gself, fun b hb => .inl hb, Nat.le_refl _⟩
      · exact ⟨_, w, [], run_append_zero w t ty e i ht hi _ _ n cap c h1, by simp [RelL], by simp, .inr ⟨g, cap, cur, rfl, hp, hg, h1, h2, h3, by simpa using h4⟩, gself, fun b hb => .inl hb, Nat.le_refl _⟩
    · have grow : ∀ (a : Addr) (old : Nat), old < n + ys.length → xs.length = n * sz → (∀ j u, xs[j]? = some u → w.cell? (a.add j) = some u) →
          ∃ v' w', (Builtin.append_ #[t, t] ty #[.slice (some a) n old, .slice (some ⟨b, o, none⟩) ys.length c]).run P w = .ok v' w' ∧
            (∃ g cap cur, v' = .slice (some ⟨g, 0, none⟩) (n + ys.length) cap ∧ 0 < cap ∧ w'.heap[g]? = some (.cells cur e (0, 0)) ∧ n + ys.length ≤ cap ∧ cap ≤ maxLen ∧ cur.size = cap * sz ∧ cur.toList.take ((n + ys.length) * sz) = xs ++ vs) ∧
            (∀ row, w.grownBy w' row) ∧ (∀ b, capBlock v' = some b → w.heap.size ≤ b) ∧ w.drawn ≤ w'.drawn := by
        intro a old ho hxl hxc
        have hrun := run_append_grow (P := P) w t ty e i z ht hi hz a n old xs (by rw [hsize]; exact hxl) hxc ⟨b, o, none⟩ ys.length c vs (by rw [hsize]; exact hvl) hvc' ho h63i (growslice_fits ho hroom.1)
        have hgr := grown_owns (w := w) (e := e) (old := old) hzs hxl hvl h63
        obtain ⟨hlen, hor⟩ := hgr.1
        rcases hor with ⟨hn, _⟩ | ⟨g, cap, cur, hv, _, hg, h1, h2, h3, h4⟩
        · cases hn
        · refine ⟨_, _, hrun, ⟨g, cap, cur, hv, by omega, hg, h1, h2, h3, h4⟩, hgr.2, fun b hb => ?_, Nat.le_succ _⟩
          have hcap : grownCap w (n + ys.length) old e ≠ 0 := by have := grownCap_ge w (n + ys.length) old e; omega
          simp only [capBlock, if_neg hcap, Option.some.injEq] at hb
          omega
      rcases hown with ⟨rfl, rfl, a, rfl⟩ | ⟨g, cap, cur, rfl, hp, hg, h1, h2, h3, h4⟩
      · cases a with
        | none =>
          have hrun := run_append_nil (P := P) w t ty e i z ht hi hz ⟨b, o, none⟩ ys.length c vs (by rw [hsize]; exact hvl) hvc' (by omega) (by omega) (by have := growslice_fits (old := 0) (need := ys.length) (by omega) (by simpa using hroom.1); have h2 := hroom.1; simp only [Nat.zero_add] at h2; omega)
          have hgr := grown_owns (w := w) (e := e) (old := 0) (n := 0) (xs := []) hzs (by simp) hvl (by simpa using h63)
          simp only [Nat.zero_add, List.nil_append, Array.empty_append] at hgr ⊢
          obtain ⟨hlen, hor⟩ := hgr.1
          rcases hor with ⟨hn, _⟩ | ⟨g, cap, cur, hv, _, hg, h1, h2, h3, h4⟩
          · cases hn
          · refine ⟨_, _, vs, hrun, hvr, hvl, .inr ⟨g, cap, cur, hv, by omega, hg, h1, h2, h3, h4⟩, hgr.2 _, fun b hb => .inr ?_, Nat.le_succ _⟩
            have hcap : grownCap w ys.length 0 e ≠ 0 := by have := grownCap_ge w ys.length 0 e; omega
            simp only [capBlock, if_neg hcap, Option.some.injEq] at hb
            omega
        | some a =>
          obtain ⟨v', w', hrun, hr2, hgr, hbb, hdr⟩ := grow a 0 (by omega) (by simp) (by simp)
          exact ⟨v', w', vs, hrun, hvr, hvl, .inr hr2, hgr _, fun b hb => .inr (hbb b hb), hdr⟩
      · have hxl : xs.length = n * sz := by
          rw [← h4, List.length_take, Array.length_toList, h3]; exact Nat.min_eq_left (Nat.mul_le_mul_right sz h1)
        have hcapne : cap ≠ 0 := Nat.pos_iff_ne_zero.1 hp
        by_cases hroomc : n + ys.length ≤ cap
        · have hfit : n * i.size + vs.length ≤ cur.size := by rw [hvl, h3, hsize, ← Nat.add_mul]; exact Nat.mul_le_mul_right _ hroomc
          have hrun := run_append_room (P := P) w t ty e i ht hi g n cap cur hg ⟨b, o, none⟩ ys.length c vs (by rw [hsize]; exact hvl) hvc' (RelL.one hvr) hroomc hfit
          refine ⟨_, _, vs, hrun, hvr, hvl, .inr ⟨g, cap, _, rfl, hp, setRow_heap w g cur _ e _ hg, hroomc, h2, ?_, ?_⟩, ⟨rfl, rfl, rfl, by simp, fun k _ hk => setRow_other w g k _ (fun e => hk (by simp [capBlock, hcapne, e]))⟩, fun b hb => .inl ?_, by simp⟩
          · simp only [List.size_toArray, List.length_append, List.length_take, List.length_drop, Array.length_toList]
            rw [hsize] at hfit ⊢
            omega
          · have hlen : (xs ++ vs).length = (n + ys.length) * sz := by rw [List.length_append, hxl, hvl, Nat.add_mul]
            rw [hsize, h4, ← hlen]
            exact List.take_left
          · simpa [capBlock, hcapne] using hb
        · obtain ⟨v', w', hrun, hr2, hgr, hbb, hdr⟩ := grow ⟨g, 0, none⟩ cap (by omega) hxl (fun j u hu => by
            rw [add_off, Nat.zero_add, cell_of_row w g j cur e (0, 0) hg]
            rw [← h4, List.getElem?_take] at hu
            split at hu
            · simpa using hu
            · cases hu)
          exact ⟨v', w', vs, hrun, hvr, hvl, .inr hr2, hgr _, fun b hb => .inr (hbb b hb), hdr⟩
theorem flatten_length {sz : Nat} : ∀ {rows : List (List T)}, (∀ r ∈ rows, r.length = sz) → rows.flatten.length = rows.length * sz
  | [], _ => by simp
  | r :: rs, h => by
    have := flatten_length (rows := rs) (sz := sz) fun x hx => h x (by simp [hx])
    simp [this, h r (by simp), Nat.add_mul]; omega

/-- An append to an array, or to a slice without room: the array afterwards. -/
theorem append_put {base : Nat} {M : Nat → Prop} {w0 : World} (hO : RelO base W M w0 objs w L) {r : Nat} {ver ver' e sz : Nat} {rows ys : List (List T)} (hsz : 0 < sz)
    {v v' : Value} {w' : World} {xs vs : List Value} (hrl : ∀ x ∈ rows ++ ys, x.length = sz)
    {rows0 : List (List T)} (hold : (objs r = none ∧ rows = [] ∧ capBlock v = none) ∨ (objs r = some (.arr ver e sz rows0) ∧ capBlock (L.sl r) = capBlock v ∧ ver < ver'))
    (hxs : RelL w (WW W objs L) rows.flatten xs) (hvs : RelL w (WW W objs L) ys.flatten vs)
    (hnew : (rows.length + ys.length = 0 ∧ ∃ a : Option Addr, v' = .slice a 0 0) ∨ ∃ g cap cur, v' = .slice (some ⟨g, 0, none⟩) (rows.length + ys.length) cap ∧ 0 < cap ∧ w'.heap[g]? = some (.cells cur e (0, 0)) ∧ rows.length + ys.length ≤ cap ∧ cap ≤ maxLen ∧ cur.size = cap * sz ∧
          cur.toList.take ((rows.length + ys.length) * sz) = xs ++ vs)
    (hgr : w.grownBy w' (capBlock v)) (hbb : ∀ b, capBlock v' = some b → capBlock v = some b ∨ w.heap.size ≤ b) (hdr : w.drawn ≤ w'.drawn) :
    RelO base W M w0 (putO objs (some (r, .arr ver' e sz (rows ++ ys)))) w' (L.setSl r v') ∧ Adv W objs L w (putO objs (some (r, .arr ver' e sz (rows ++ ys)))) (L.setSl r v') w' := by
  have hreach : ∀ g, capBlock v = some g → base ≤ g ∨ M g := fun g hg => by
    rcases hold with ⟨_, _, h⟩ | ⟨ho, hv, _⟩
    · rw [hg] at h; cases h
    · exact (hO.ob r _ ho).reach (by simpa [Loc.own, hv] using hg)
  have hle : base ≤ w.heap.size := Nat.le_trans hO.fr.size0 hO.fr.size
  have hfr : Fr base M w0 w' := hO.fr.trans ⟨hgr.os, hgr.tape, hgr.output, hle, hgr.size, fun k hk hm => hgr.block k (by omega) fun x => by
    rcases hreach k x.symm with h | h
    · omega
    · exact hm h, hdr⟩
  refine RelO.put hO hfr hgr.size (fun x hx => ⟨rfl, by simp [Loc.setSl, hx]⟩) rfl (fun b hlt hb => hgr.block b hlt fun x => ?_) (fun b hb => ?_) (fun cs hc hk => ?_) (fun ver2 e2 sz2 rows2 hc => ?_) (fun adv => ?_)
  · rcases hold with ⟨_, _, h⟩ | ⟨ho, hv, _⟩
    · rw [h] at x; cases x
    · exact hb _ ho (by simp [Loc.own, hv, ← x])
  · simp only [Loc.own, Loc.setSl, if_true] at hb
    rcases hbb b hb with h | h
    · rcases hold with ⟨_, _, h2⟩ | ⟨ho, hv, _⟩
      · rw [h] at h2; cases h2
      · exact .inl ⟨_, ho, by simp [Loc.own, hv, h]⟩
    · exact .inr h
  · rcases hold with ⟨h, _⟩ | ⟨h, _⟩ <;> rw [hc] at h <;> cases h
    exact absurd rfl (by assumption)
  · rcases hold with ⟨h, _⟩ | ⟨h, _, hlt⟩
    · rw [hc] at h; cases h
    · rw [hc] at h
      cases h
      exact ⟨ver', e, sz, _, rfl, by omega, fun x => by omega⟩
  · refine ⟨hsz, hrl, fun g hg => ?_, ?_⟩
    · simp only [Loc.setSl, if_true] at hg
      rcases hbb g hg with h | h
      · exact hreach g h
      · exact .inl (Nat.le_trans hle h)
    · simp only [Loc.setSl, if_true, List.length_append]
      rcases hnew with ⟨h0, ha⟩ | ⟨g, cap, cur, hv, hp, hg, h1, h2, h3, h4⟩
      · refine .inl ⟨?_, ha⟩
        have h1 : rows = [] := List.eq_nil_of_length_eq_zero (by omega)
        have h2 : ys = [] := List.eq_nil_of_length_eq_zero (by omega)
        simp [h1, h2]
      · refine .inr ⟨g, cap, cur, hv, hp, hg, h1, h2, h3, ?_⟩
        rw [h4, List.flatten_append]
        exact RelL.append (RelL.keep adv.keeps.toKeepsC adv.sub _ _ hxs) (RelL.keep adv.keeps.toKeepsC adv.sub _ _ hvs)

theorem append_sound {P : Program} {base : Nat} {M : Nat → Prop} {w0 : World} (hO : RelO base W M w0 objs w L) {t ty e : TypeId} {i : TypeInfo} {z : Value} (ht : P.underlying t = some (.slice e)) (hi : P.info? e = some i) (hz : i.zero = some z) (hzs : z.cells.size = i.size) (hsz : 0 < i.size)
    {name : Nat} (hname : objs name = none) {x y : DV} {xv yv : Value} (hx : RelD w W objs L x xv) (hy : RelD w W objs L y yv) (hok : (appendSem e i.size i.bytes name objs x y).ok) :
    ∃ v w' L', (Builtin.append_ #[t, t] ty #[xv, yv]).run P w = .ok v w' ∧ RelO base W M w0 (putO objs (appendSem e i.size i.bytes name objs x y).put) w' L' ∧
      Adv W objs L w (putO objs (appendSem e i.size i.bytes name objs x y).put) L' w' ∧ RelD w' W (putO objs (appendSem e i.size i.bytes name objs x y).put) L' (appendSem e i.size i.bytes name objs x y).val v := by
  unfold appendSem at hok ⊢
  cases hs : srcRows objs y with
  | none => simp [hs, bad] at hok
  | some ys =>
    simp only [hs] at hok ⊢
    have hyw : ∀ b o, RelRows w (WW W objs L) i.size b o ys → ∃ vs, vs.length = ys.length * i.size ∧ RelL w (WW W objs L) ys.flatten vs ∧ ∀ j v, vs[j]? = some v → w.cell? ⟨b, o + j, none⟩ = some v := fun b o h => RelRows.flatten h
    cases x with
    | nil0 =>
      simp only at hok ⊢
      have hx' := hx
      simp only [RelD] at hx'
      obtain ⟨a, rfl⟩ := hx'
      obtain ⟨v', w', vs, hrun, hvr, hvl, hnew, hgr, hbb, hdr⟩ := run_append_any (n := 0) (xs := []) ht hi hz rfl hzs (.inl ⟨rfl, rfl, a, rfl⟩) (ty := ty) (src_sound hO hy hs hok.1) hyw (by simpa using hok.2)
      have hcb : capBlock (.slice a 0 0) = none := by cases a <;> simp [capBlock]
      have := append_put hO (r := name) (ver := 0) (ver' := 0) (rows0 := []) (rows := []) (ys := ys) hsz (by simpa using hok.1) (.inl ⟨hname, rfl, hcb⟩) (xs := []) (by simp [RelL]) hvr (by simpa using hnew) hgr hbb hdr
      refine ⟨v', w', _, hrun, by simpa using this.1, by simpa using this.2, ?_⟩
      simp only [RelD]
      refine ⟨?_, 0, e, i.size, ys, by simp [putO], Nat.le_refl _, fun _ => by simp [Loc.setSl]⟩
      rcases hnew with ⟨_, a, rfl⟩ | ⟨g, cap, cur, rfl, _⟩ <;> exact ⟨_, _, _, rfl⟩
    | aref r ver =>
      cases ho : objs r with
      | none => simp [ho, bad] at hok
      | some o =>
        cases o with
        | box cs => simp [ho, bad] at hok
        | arr ver' e' sz' rows =>
          simp only [ho] at hok ⊢
          obtain ⟨rfl, rfl, rfl, hl, hroom⟩ := hok
          have hx' := hx
          simp only [RelD] at hx'
          obtain ⟨_, ver2, e2, sz2, rows2, ho2, _, hv2⟩ := hx'
          rw [ho] at ho2
          cases ho2
          have hv := hv2 rfl
          have hob := hO.ob r _ ho
          obtain ⟨_, hrows, hm, hal⟩ := hob
          have hown : ∃ xs, RelL w (WW W objs L) rows.flatten xs ∧ ((rows.length = 0 ∧ xs = [] ∧ ∃ a : Option Addr, xv = .slice a 0 0) ∨ ∃ g cap cur, xv = .slice (some ⟨g, 0, none⟩) rows.length cap ∧ 0 < cap ∧ w.heap[g]? = some (.cells cur e' (0, 0)) ∧ rows.length ≤ cap ∧ cap ≤ maxLen ∧ cur.size = cap * i.size ∧ cur.toList.take (rows.length * i.size) = xs) := by
            rcases hal with ⟨rfl, a, ha⟩ | ⟨g, cap, cur, h1, h2, h3, h4, h5, h6, h7⟩
            · exact ⟨[], by simp [RelL], .inl ⟨rfl, rfl, a, by rw [hv, ha]⟩⟩
            · exact ⟨_, h7, .inr ⟨g, cap, cur, by rw [hv, h1], h2, h3, h4, h5, h6, rfl⟩⟩
          obtain ⟨xs, hxr, hown⟩ := hown
          obtain ⟨v', w', vs, hrun, hvr, hvl, hnew, hgr, hbb, hdr⟩ := run_append_any ht hi hz rfl hzs hown (ty := ty) (src_sound hO hy hs hl) hyw hroom
          have := append_put hO (r := r) (ver := ver) (ver' := ver + 1) (rows := rows) (ys := ys) hsz (fun x hx => (List.mem_append.1 hx).elim (hrows x) (hl x)) (.inr ⟨ho, by rw [hv], by omega⟩) hxr hvr hnew hgr hbb hdr
          refine ⟨v', w', _, hrun, this.1, this.2, ?_⟩
          simp only [RelD]
          refine ⟨?_, ver + 1, e', i.size, rows ++ ys, by simp [putO], Nat.le_refl _, fun _ => by simp [Loc.setSl]⟩
          rcases hnew with ⟨_, a, rfl⟩ | ⟨g, cap, cur, rfl, _⟩ <;> exact ⟨_, _, _, rfl⟩
        | _ => simp [ho, bad] at hok
    | asl r ver lo n =>
      cases lo with
      | succ lo => simp [bad] at hok
      | zero =>
      cases ho : objs r with
      | none => simp [ho, bad] at hok
      | some o =>
        cases o with
        | arr ver' e' sz' rows =>
          simp only [ho] at hok ⊢
          obtain ⟨rfl, rfl, rfl, hl, hroom⟩ := hok
          have hx' := hx
          simp only [RelD] at hx'
          obtain ⟨_, ver2, e2, sz2, rows2, ho2, _, hv2⟩ := hx'
          rw [ho] at ho2
          cases ho2
          obtain ⟨hln, p, cap0, p2, hsl, rfl, hp2⟩ := hv2 rfl
          have hob := hO.ob r _ ho
          obtain ⟨_, hrows, hm, hal⟩ := hob
          have htl : (rows.take n).length = n := by rw [List.length_take]; omega
          have hcb : capBlock (L.sl r) = capBlock (.slice p2 n (cap0 - 0)) := by
            rw [hsl]
            simp only [Nat.sub_zero]
            by_cases hc0 : cap0 = 0
            · subst hc0; cases p <;> cases p2 <;> simp [capBlock]
            · have := hp2 (by omega)
              subst this
              cases p with
              | none => simp [capBlock]
              | some a =>
                obtain ⟨b, o, ix⟩ := a
                cases ix <;> simp [capBlock, hc0, Addr.add]
          have hown : ∃ xs, RelL w (WW W objs L) (rows.take n).flatten xs ∧ ((n = 0 ∧ xs = [] ∧ ∃ a : Option Addr, Value.slice p2 n (cap0 - 0) = .slice a 0 0) ∨ ∃ g cap cur, Value.slice p2 n (cap0 - 0) = .slice (some ⟨g, 0, none⟩) n cap ∧ 0 < cap ∧ w.heap[g]? = some (.cells cur e' (0, 0)) ∧ n ≤ cap ∧ cap ≤ maxLen ∧ cur.size = cap * i.size ∧ cur.toList.take (n * i.size) = xs) := by
            rcases hal with ⟨rfl, a, ha⟩ | ⟨g, cap, cur, h1, h2, h3, h4, h5, h6, h7⟩
            · rw [hsl] at ha
              simp only [Value.slice.injEq] at ha
              obtain ⟨_, _, rfl⟩ := ha
              have : n = 0 := by simp at hln; omega
              subst this
              exact ⟨[], by simp [RelL], .inl ⟨rfl, rfl, p2, rfl⟩⟩
            · rw [hsl] at h1
              simp only [Value.slice.injEq] at h1
              obtain ⟨rfl, _, rfl⟩ := h1
              have := hp2 h2
              subst this
              refine ⟨_, ?_, .inr ⟨g, cap0, cur, by simp [add_off], h2, h3, by omega, h5, h6, rfl⟩⟩
              have e1 : (rows.take n).flatten = rows.flatten.take (n * i.size) := by
                have h8 : rows.flatten = (rows.take n).flatten ++ (rows.drop n).flatten := by rw [← List.flatten_append, List.take_append_drop]
                rw [h8, List.take_left' (by rw [flatten_length (sz := i.size) (fun r hr => hrows r (List.mem_of_mem_take hr)), htl])]
              have e2 : cur.toList.take (n * i.size) = (cur.toList.take (rows.length * i.size)).take (n * i.size) := by
                rw [List.take_take]; congr 1
                have := Nat.mul_le_mul_right i.size (show n ≤ rows.length by omega)
                omega
              rw [e1, e2]
              exact RelL.take _ h7
          obtain ⟨xs, hxr, hown⟩ := hown
          obtain ⟨v', w', vs, hrun, hvr, hvl, hnew, hgr, hbb, hdr⟩ := run_append_any ht hi hz rfl hzs hown (ty := ty) (src_sound hO hy hs hl) hyw hroom
          have := append_put hO (r := r) (ver := ver) (ver' := ver + 1) (rows := rows.take n) (ys := ys) hsz (fun x hx => (List.mem_append.1 hx).elim (fun h => hrows x (List.mem_of_mem_take h)) (hl x)) (.inr ⟨ho, hcb, by omega⟩) hxr hvr (by rw [htl]; exact hnew) hgr hbb hdr
          refine ⟨v', w', _, hrun, this.1, this.2, ?_⟩
          simp only [RelD]
          refine ⟨?_, ver + 1, e', i.size, rows.take n ++ ys, by simp [putO], Nat.le_refl _, fun _ => by simp [Loc.setSl]⟩
          rcases hnew with ⟨_, a, rfl⟩ | ⟨g, cap, cur, rfl, _⟩ <;> exact ⟨_, _, _, rfl⟩
        | _ => simp [ho, bad] at hok
    | _ => simp [bad] at hok

theorem copy_sound {P : Program} {base : Nat} {M : Nat → Prop} {w0 : World} (hO : RelO base W M w0 objs w L) {t t' ty e0 : TypeId} {i : TypeInfo} (ht : P.underlying t = some (.slice e0)) (hi : P.info? e0 = some i)
    {x y : DV} {xv yv : Value} (hx : RelD w W objs L x xv) (hy : RelD w W objs L y yv) (hok : (copySem i.size objs x y).ok) :
    ∃ v w', (Builtin.copy_ #[t, t'] ty #[xv, yv]).run P w = .ok v w' ∧ RelO base W M w0 (putO objs (copySem i.size objs x y).put) w' L ∧
      Adv W objs L w (putO objs (copySem i.size objs x y).put) L w' ∧ RelD w' W (putO objs (copySem i.size objs x y).put) L (copySem i.size objs x y).val v := by
  unfold copySem at hok ⊢
  cases hs : srcRows objs y with
  | none => simp [hs, bad] at hok
  | some ys =>
    simp only [hs] at hok ⊢
    cases x with
    | aref r ver =>
      cases ho : objs r with
      | none => simp [ho, bad] at hok
      | some o =>
        cases o with
        | arr ver' e sz' rows =>
          simp only [ho] at hok ⊢
          obtain ⟨rfl, rfl, hl⟩ := hok
          simp only [RelD] at hx
          obtain ⟨_, ver2, e2, sz2, rows2, ho2, _, hv2⟩ := hx
          rw [ho] at ho2
          cases ho2
          have hv := hv2 rfl
          subst hv
          have hd : (rows.length = 0 ∧ ∃ (a : Option Addr) (c : Nat), L.sl r = .slice a 0 c) ∨ ∃ g c, capBlock (L.sl r) = some g ∧ L.sl r = .slice (some ⟨g, 0 * i.size, none⟩) rows.length c := by
            obtain ⟨_, _, _, hal⟩ := hO.ob r _ ho
            rcases hal with ⟨rfl, a, ha⟩ | ⟨g, cap, cur, h1, h2, _⟩
            · exact .inl ⟨rfl, a, 0, ha⟩
            · exact .inr ⟨g, cap, by rw [h1]; simp [capBlock, Nat.pos_iff_ne_zero.1 h2], by rw [h1, Nat.zero_mul]⟩
          obtain ⟨w', h1, h2, h3⟩ := copy_core hO ht hi (t' := t') (ty := ty) ho (lo := 0) (n := rows.length) (by omega) hd (src_sound hO hy hs hl) hl
          exact ⟨_, w', h1, h2, h3, by simp [RelD, RelT, goInt]⟩
        | _ => simp [ho, bad] at hok
    | asl r ver lo n =>
      cases ho : objs r with
      | none => simp [ho, bad] at hok
      | some o =>
        cases o with
        | arr ver' e sz' rows =>
          simp only [ho] at hok ⊢
          obtain ⟨rfl, rfl, hl⟩ := hok
          simp only [RelD] at hx
          obtain ⟨_, ver2, e2, sz2, rows2, ho2, _, hv2⟩ := hx
          rw [ho] at ho2
          cases ho2
          have hv := hv2 rfl
          have hd : (n = 0 ∧ ∃ (a : Option Addr) (c : Nat), xv = .slice a 0 c) ∨ ∃ g c, capBlock (L.sl r) = some g ∧ xv = .slice (some ⟨g, lo * i.size, none⟩) n c := by
            rcases asl_rows hO ho hv with h | ⟨g, c, h1, h2, _⟩
            · exact .inl h
            · exact .inr ⟨g, c, h1, h2⟩
          obtain ⟨w', h1, h2, h3⟩ := copy_core hO ht hi (t' := t') (ty := ty) ho hv.1 hd (src_sound hO hy hs hl) hl
          exact ⟨_, w', h1, h2, h3, by simp [RelD, RelT, goInt]⟩
        | _ => simp [ho, bad] at hok
    | _ => simp [bad] at hok

theorem getElem?_flatten_replicate {α : Type} (l : List α) : ∀ (n j : Nat), j < n * l.length → (List.replicate n l).flatten[j]? = l[j % l.length]?
  | 0, j, h => by simp at h
  | n + 1, j, h => by
    simp only [List.replicate_succ, List.flatten_cons]
    by_cases hj : j < l.length
    · rw [List.getElem?_append_left hj, Nat.mod_eq_of_lt hj]
    · rw [List.getElem?_append_right (by omega), getElem?_flatten_replicate l n (j - l.length) (by rw [Nat.add_mul] at h; omega)]
      rw [Nat.mod_eq_sub_mod (a := j) (by omega)]
theorem madeCells_eq (z : Array Value) (n : Nat) : (madeCells z (n * z.size)).toList = (List.replicate n z.toList).flatten := by
  apply List.ext_getElem?
  intro j
  by_cases hj : j < n * z.size
  · have hz : 0 < z.size := by
      rcases Nat.eq_zero_or_pos z.size with h | h
      · rw [h] at hj; simp at hj
      · exact h
    rw [getElem?_flatten_replicate z.toList n j (by simpa using hj)]
    have hm := Nat.mod_lt j hz
    simp [madeCells, hj, hm]
  · rw [List.getElem?_eq_none (by simp [size_madeCells]; omega), List.getElem?_eq_none (by simp; omega)]
theorem relL_replicate {zero : List T} {zs : List Value} (h : RelL w W zero zs) : ∀ n, RelL w W (List.replicate n zero).flatten (List.replicate n zs).flatten
  | 0 => by simp [RelL]
  | n + 1 => by simpa [List.replicate_succ] using RelL.append h (relL_replicate h n)

/-- A new array. -/
theorem new_arr {base : Nat} {M : Nat → Prop} {w0 : World} (hO : RelO base W M w0 objs w L) {r : Nat} (hr : objs r = none) {e sz : Nat} {rows : List (List T)} (hsz : 0 < sz) (hrl : ∀ x ∈ rows, x.length = sz) {c : Array Value} (hcs : c.size = rows.length * sz)
    (hc : RelL w (WW W objs L) rows.flatten c.toList) (hmax : rows.length ≤ maxLen) :
    RelO base W M w0 (putO objs (some (r, .arr 0 e sz rows))) (w.alloc (.cells c e)) (L.setSl r (.slice (some ⟨w.heap.size, 0, none⟩) rows.length rows.length)) ∧
      Adv W objs L w (putO objs (some (r, .arr 0 e sz rows))) (L.setSl r (.slice (some ⟨w.heap.size, 0, none⟩) rows.length rows.length)) (w.alloc (.cells c e)) := by
  have hb := below_alloc (w := w) (.cells c e)
  refine RelO.put hO (fr_below hO.fr hb) hb.size (fun x hx => ⟨rfl, by simp [Loc.setSl, hx]⟩) rfl (fun b hlt _ => hb.block b hlt) (fun b h => .inr ?_)
    (fun o' h _ => by rw [hr] at h; cases h) (fun _ _ _ _ h => by rw [hr] at h; cases h) (fun adv => ?_)
  · simp only [Loc.own, Loc.setSl, if_true, capBlock] at h
    split at h
    · cases h
    · simp only [Option.some.injEq] at h
      omega
  · refine ⟨hsz, hrl, fun g hg => ?_, ?_⟩
    · simp only [Loc.setSl, if_true, capBlock] at hg
      split at hg
      · cases hg
      · simp only [Option.some.injEq] at hg
        subst hg
        exact .inl (Nat.le_trans hO.fr.size0 hO.fr.size)
    · simp only [Loc.setSl, if_true]
      by_cases h0 : rows.length = 0
      · refine .inl ⟨List.eq_nil_of_length_eq_zero h0, some ⟨w.heap.size, 0, none⟩, by rw [h0]⟩
      · refine .inr ⟨w.heap.size, rows.length, c, rfl, by omega, heap_alloc_new w _, Nat.le_refl _, hmax, hcs, ?_⟩
        rw [List.take_of_length_le (by simp [hcs])]
        exact RelL.keep adv.keeps.toKeepsC adv.sub _ _ hc

theorem make_sound {P : Program} {base : Nat} {M : Nat → Prop} {w0 : World} (hO : RelO base W M w0 objs w L) {t e : TypeId} {i : TypeInfo} {z : Value} (ht : P.underlying t = some (.slice e)) (hi : P.info? e = some i) (hz : i.zero = some z) (hsz : 0 < i.size)
    {zero : List T} (hzero : z.cells.toList.mapM constT = some zero) {name : Nat} (hname : objs name = none) {x : DV} {xv : Value} (hx : RelD w W objs L x xv) (hok : (makeSem e i.size i.bytes zero name x).ok) :
    ∃ v w' L', (Instr.makeSlice t xv xv).run P w = .ok v w' ∧ RelO base W M w0 (putO objs (makeSem e i.size i.bytes zero name x).put) w' L' ∧
      Adv W objs L w (putO objs (makeSem e i.size i.bytes zero name x).put) L' w' ∧ RelD w' W (putO objs (makeSem e i.size i.bytes zero name x).put) L' (makeSem e i.size i.bytes zero name x).val v := by
  cases x with
  | v t' =>
    cases t' with
    | int k n =>
      simp only [RelD, RelT] at hx
      subst hx
      simp only [makeSem] at hok ⊢
      obtain ⟨h0, hzl, hb, hm⟩ := hok
      have hzz := mapM_constT_rel (w := w) (W := WW W objs L) hzero
      have hzs : z.cells.size = i.size := by have := RelL.length hzz; simpa [hzl] using this
      have hbi : (i.bytes : Int) * n ≤ 281474976710656 := by
        have e : (i.bytes : Int) * n = ((n.toNat * i.bytes : Nat) : Int) := by
          rw [Int.natCast_mul, Int.toNat_of_nonneg h0, Int.mul_comm]
        rw [e]; omega
      have hrun := run_make (P := P) w t e i z ht hi hz k k n n h0 (Int.le_refl _) hbi (by omega)
      have hc : (madeCells z.cells (n.toNat * i.size)).toList = (List.replicate n.toNat z.cells.toList).flatten := by rw [← hzs]; exact madeCells_eq _ _
      have := new_arr hO (e := e) hname (rows := List.replicate n.toNat zero) hsz (fun x hx => by rw [List.eq_of_mem_replicate hx]; exact hzl) (c := madeCells z.cells (n.toNat * i.size)) (by simp [size_madeCells]) (by rw [hc]; exact relL_replicate hzz _) (by simp only [List.length_replicate, maxLen]; omega)
      simp only [List.length_replicate] at this
      refine ⟨_, _, _, hrun, this.1, this.2, ?_⟩
      simp only [RelD]
      exact ⟨⟨_, _, _, rfl⟩, 0, e, i.size, List.replicate n.toNat zero, by simp [putO], Nat.le_refl _, fun _ => by simp [Loc.setSl]⟩
    | _ => simp [makeSem, bad] at hok
  | _ => simp [makeSem, bad] at hok
theorem relDs_zero {ts : List T} : ∀ {zs : List Value}, zs.mapM constT = some ts → RelDs w W objs L (ts.map zeroC) zs := by
  induction ts with
  | nil =>
    intro zs h
    cases zs with
    | nil => simp [RelDs]
    | cons z zs => simp [List.mapM_cons, Option.bind_eq_some_iff] at h
  | cons t ts ih =>
    intro zs h
    cases zs with
    | nil => simp at h
    | cons z zs =>
      simp only [List.mapM_cons, Option.pure_def, Option.bind_eq_bind, Option.bind_eq_some_iff, Option.some.injEq, List.cons.injEq] at h
      obtain ⟨t', ht, ts', hts, rfl, rfl⟩ := h
      simp only [List.map_cons, RelDs]
      have hr := constT_rel (w := w) (W := WW W objs L) ht
      refine ⟨z, zs, rfl, hr.2.1, ?_, ih hts⟩
      unfold zeroC
      split
      · unfold constT at ht
        split at ht <;> first | (cases ht; done) | skip
        all_goals first
          | (simp only [RelD]; exact ⟨_, rfl⟩)
          | (cases ht)
      · simp only [RelD]; exact hr.1
theorem relDs_replicate {zero : List DV} {zs : List Value} (h : RelDs w W objs L zero zs) : ∀ n, RelDs w W objs L (List.replicate n zero).flatten (List.replicate n zs).flatten
  | 0 => by simp [RelDs]
  | n + 1 => by simpa [List.replicate_succ] using RelDs.append h (relDs_replicate h n)
theorem makeB_sound {P : Program} {base : Nat} {M : Nat → Prop} {w0 : World} (hO : RelO base W M w0 objs w L) {t e : TypeId} {i : TypeInfo} {z : Value} (ht : P.underlying t = some (.slice e)) (hi : P.info? e = some i) (hz : i.zero = some z)
    {zero : List T} (hzero : z.cells.toList.mapM constT = some zero) {name : Nat} (hname : objs name = none) {x : DV} {xv : Value} (hx : RelD w W objs L x xv) (hok : (makeBSem i.size i.bytes zero name x).ok) :
    ∃ v w' L', (Instr.makeSlice t xv xv).run P w = .ok v w' ∧ RelO base W M w0 (putO objs (makeBSem i.size i.bytes zero name x).put) w' L' ∧
      Adv W objs L w (putO objs (makeBSem i.size i.bytes zero name x).put) L' w' ∧ RelD w' W (putO objs (makeBSem i.size i.bytes zero name x).put) L' (makeBSem i.size i.bytes zero name x).val v := by
  cases x with
  | v t' =>
    cases t' with
    | int k n =>
      simp only [RelD, RelT] at hx
      subst hx
      simp only [makeBSem] at hok ⊢
      obtain ⟨h0, hzl, hb, hm⟩ := hok
      have hzz := relDs_zero (w := w) (W := W) (objs := objs) (L := L) hzero
      have hzs : z.cells.size = i.size := by have := RelDs.length hzz; simpa [hzl] using this
      have hbi : (i.bytes : Int) * n ≤ 281474976710656 := by
        have e : (i.bytes : Int) * n = ((n.toNat * i.bytes : Nat) : Int) := by
          rw [Int.natCast_mul, Int.toNat_of_nonneg h0, Int.mul_comm]
        rw [e]; omega
      have hrun := run_make (P := P) w t e i z ht hi hz k k n n h0 (Int.le_refl _) hbi (by omega)
      have hc : (madeCells z.cells (n.toNat * i.size)).toList = (List.replicate n.toNat z.cells.toList).flatten := by rw [← hzs]; exact madeCells_eq _ _
      have := new_box hO hname (c := madeCells z.cells (n.toNat * i.size)) e (cs := (List.replicate n.toNat (zero.map zeroC)).flatten) (by rw [hc]; exact relDs_replicate hzz _)
      refine ⟨_, _, _, hrun, this.1, this.2, ?_⟩
      simp only [RelD]
      exact ⟨⟨(List.replicate n.toNat (zero.map zeroC)).flatten, by simp [putO]⟩, by simp [Loc.setBlk]⟩
    | _ => simp [makeBSem, bad] at hok
  | _ => simp [makeBSem, bad] at hok
end
end Go.DM
/- The D-machine, part F: equality of values that are compared cell by cell. Conditions: none. -/
namespace Go.DM
open Go.RowKit
set_option linter.unusedSimpArgs false
set_option linter.unusedVariables false
set_option linter.unusedSectionVars false
variable [Laid]

def shFieldsOf (P : Program) (rec : TypeId → Option (List Sh)) (off : Nat) : List Field → Option (List Sh)
  | [] => some []
  | f :: fs =>
    match rec f.type, P.info? f.type with
    | some s, some i => if f.name ≠ "_" ∧ f.offset = off ∧ s.length = i.size then (shFieldsOf P rec (off + s.length) fs).map (s ++ ·) else none
    | _, _ => none
def shOf (P : Program) : Nat → TypeId → Option (List Sh)
  | 0, _ => none
  | d + 1, t =>
    match P.underlying t with
    | some .bool => some [.bool]
    | some (.int k) => some [.int k]
    | some .string => some [.str]
    | some (.struct fs) => if P.stoodInHeld t then none else shFieldsOf P (shOf P d) 0 fs.toList
    | some (.array n e) =>
      match shOf P d e, P.info? e with
      | some s, some i => if s.length = i.size ∧ 0 < i.size then some ((List.replicate n s).flatten) else none
      | _, _ => none
    | _ => none

def fit : Sh → Value → Bool
  | .bool, .bool _ => true
  | .int k, .int k' _ => k == k'
  | .str, .string _ => true
  | _, _ => false
def fits : List Sh → List Value → Prop
  | [], vs => vs = []
  | s :: ss, vs => ∃ v vs', vs = v :: vs' ∧ fit s v = true ∧ fits ss vs'
def veq : Value → Value → Bool
  | .bool a, .bool b => a == b
  | .int _ a, .int _ b => a == b
  | .string a, .string b => a.toList == b.toList
  | _, _ => false
def veqs : List Value → List Value → Bool
  | [], [] => true
  | a :: as, b :: bs => veq a b && veqs as bs
  | _, _ => false

theorem fits.length : ∀ {ss : List Sh} {vs : List Value}, fits ss vs → vs.length = ss.length
  | [], _, h => by simp only [fits] at h; simp [h]
  | _ :: ss, _, h => by
    simp only [fits] at h
    obtain ⟨v, vs', rfl, _, h⟩ := h
    simp [fits.length h]
theorem fits.split : ∀ {s1 s2 : List Sh} {vs : List Value}, fits (s1 ++ s2) vs → fits s1 (vs.take s1.length) ∧ fits s2 (vs.drop s1.length)
  | [], s2, vs, h => by simpa [fits] using h
  | s :: s1, s2, vs, h => by
    simp only [List.cons_append, fits] at h
    obtain ⟨v, vs', rfl, h1, h⟩ := h
    have := fits.split h
    simp only [List.length_cons, List.take_succ_cons, List.drop_succ_cons, fits]
    exact ⟨⟨v, _, rfl, h1, this.1⟩, this.2⟩
theorem veqs_append : ∀ {a b c d : List Value}, a.length = c.length → veqs (a ++ b) (c ++ d) = (veqs a c && veqs b d)
  | [], b, [], d, _ => by simp [veqs]
  | x :: a, b, [], d, h => by simp at h
  | [], b, y :: c, d, h => by simp at h
  | x :: a, b, y :: c, d, h => by
    simp only [List.cons_append, veqs]
    rw [veqs_append (by simpa using h), Bool.and_assoc]

/-- A value out of its cells. -/
def mkV (d : TypeDesc) (vs : List Value) : Value := if aggDesc d then .agg vs.toArray else vs.getD 0 Go.undef

section
variable {P : Program}
theorem run_part (w : World) {t : TypeId} {d : TypeDesc} {i : TypeInfo} (hd : P.underlying t = some d) (hi : P.info? t = some i) {xs : List Value} {off : Nat} (h1 : aggDesc d = true ∨ i.size = 1) (hl : off + i.size ≤ xs.length) :
    (part t xs.toArray off).run P w = .ok (mkV d ((xs.drop off).take i.size)) w := by
  have h1' : (isAgg t).run P w = .ok (aggDesc d) w := by rw [run_isAgg hd]; cases d <;> rfl
  simp only [part, Sem.run_bind, h1', Result.andThen_ok]
  by_cases ha : aggDesc d = true
  · simp only [ha, if_true, Sem.run_bind, run_sizeOf hi, Result.andThen_ok, Sem.run_pure, mkV]
    congr 3
    simp only [List.extract_toArray, List.extract_eq_take_drop]
    congr 2
    omega
  · have h2 := h1.resolve_left ha
    have hlt : off < xs.length := by omega
    simp only [ha, if_false, mkV, h2]
    simp [hlt]

theorem sh_desc {d : Nat} {t : TypeId} {shs : List Sh} (h : shOf P (d + 1) t = some shs) : ∃ desc, P.underlying t = some desc ∧ (aggDesc desc = true ∨ shs.length = 1) := by
  simp only [shOf] at h
  split at h
  · rename_i hu; exact ⟨_, hu, .inr (by simp at h; simp [← h])⟩
  · rename_i hu; exact ⟨_, hu, .inr (by simp at h; simp [← h])⟩
  · rename_i hu; exact ⟨_, hu, .inr (by simp at h; simp [← h])⟩
  · rename_i hu; exact ⟨_, hu, .inl rfl⟩
  · rename_i hu; exact ⟨_, hu, .inl rfl⟩
  · cases h

theorem eq_arr {d : Nat} {e : TypeId} {de : TypeDesc} {s : List Sh} {i : TypeInfo} (hd : P.underlying e = some de) (hi : P.info? e = some i) (h1 : aggDesc de = true ∨ i.size = 1) (hs : s.length = i.size) (hpos : 0 < i.size)
    (ih : ∀ (xs ys : List Value) (w : World), fits s xs → fits s ys → (Op.equalIn d e (mkV de xs) (mkV de ys)).run P w = .ok (veqs xs ys) w) (xs ys : List Value) :
    ∀ (n k : Nat) (w : World), fits ((List.replicate n s).flatten) (xs.drop (k * i.size)) → fits ((List.replicate n s).flatten) (ys.drop (k * i.size)) →
      (forIn (List.range' k n) (none, ()) (fun j (_ : Option Bool × Unit) => do
          let a ← part e xs.toArray (j * i.size)
          let b ← part e ys.toArray (j * i.size)
          let r ← Op.equalIn d e a b
          if (!r) = true then pure (ForInStep.done (some false, ())) else pure (ForInStep.yield (none, ()))) : Sem (Option Bool × Unit)).run P w =
        .ok (if veqs (xs.drop (k * i.size)) (ys.drop (k * i.size)) then (none, ()) else (some false, ())) w
  | 0, k, w, hx, hy => by
    simp only [List.replicate_zero, List.flatten_nil, fits] at hx hy
    simp [hx, hy, veqs]
  | n + 1, k, w, hx, hy => by
    simp only [List.replicate_succ, List.flatten_cons] at hx hy
    have hxl := fits.length hx
    have hyl := fits.length hy
    simp only [List.length_append, List.length_drop] at hxl hyl
    obtain ⟨hx1, hx2⟩ := fits.split hx
    obtain ⟨hy1, hy2⟩ := fits.split hy
    have e2 : k * i.size + s.length = (k + 1) * i.size := by rw [Nat.add_mul, hs]; omega
    rw [List.drop_drop, e2] at hx2 hy2
    have hsp : 0 < i.size := hpos
    have p1 := fun w => run_part (P := P) w hd hi (xs := xs) (off := k * i.size) h1 (by omega)
    have p2 := fun w => run_part (P := P) w hd hi (xs := ys) (off := k * i.size) h1 (by omega)
    rw [hs] at hx1 hy1
    have hr := ih _ _ w hx1 hy1
    have hsplit : veqs (xs.drop (k * i.size)) (ys.drop (k * i.size)) = (veqs ((xs.drop (k * i.size)).take i.size) ((ys.drop (k * i.size)).take i.size) && veqs (xs.drop ((k + 1) * i.size)) (ys.drop ((k + 1) * i.size))) := by
      have a1 : xs.drop (k * i.size) = (xs.drop (k * i.size)).take i.size ++ xs.drop ((k + 1) * i.size) := by
        rw [← e2, hs, ← List.drop_drop, List.take_append_drop]
      have a2 : ys.drop (k * i.size) = (ys.drop (k * i.size)).take i.size ++ ys.drop ((k + 1) * i.size) := by
        rw [← e2, hs, ← List.drop_drop, List.take_append_drop]
      rw [a1, a2, veqs_append (by simp; omega)]
      rw [← a1, ← a2]
    simp only [List.range'_succ, List.forIn_cons, Sem.run_bind, p1, p2, Result.andThen_ok, hr]
    rw [hsplit]
    cases hb : veqs ((xs.drop (k * i.size)).take i.size) ((ys.drop (k * i.size)).take i.size)
    · simp
    · have := eq_arr hd hi h1 hs hpos ih xs ys n (k + 1) w hx2 hy2
      simp only [Bool.not_true, Bool.false_eq_true, if_false, Sem.run_pure, Result.andThen_ok, Bool.true_and]
      exact this

theorem eq_fields {d : Nat} (ih : ∀ (t : TypeId) (shs : List Sh) (desc : TypeDesc), shOf P d t = some shs → P.underlying t = some desc → ∀ (xs ys : List Value) (w : World), fits shs xs → fits shs ys → (Op.equalIn d t (mkV desc xs) (mkV desc ys)).run P w = .ok (veqs xs ys) w)
    (hdesc : ∀ (t : TypeId) (shs : List Sh), shOf P d t = some shs → ∃ desc, P.underlying t = some desc ∧ (aggDesc desc = true ∨ shs.length = 1)) (xs ys : List Value) :
    ∀ (fs : List Field) (off : Nat) (shs : List Sh) (w : World), shFieldsOf P (shOf P d) off fs = some shs → fits shs (xs.drop off) → fits shs (ys.drop off) → off ≤ xs.length → off ≤ ys.length →
      (Op.eqFields d xs.toArray ys.toArray fs).run P w = .ok (veqs (xs.drop off) (ys.drop off)) w
  | [], off, shs, w, h, hx, hy, _, _ => by
    simp only [shFieldsOf, Option.some.injEq] at h
    subst h
    simp only [fits] at hx hy
    simp [Op.eqFields, hx, hy, veqs]
  | f :: fs, off, shs, w, h, hx, hy, hox, hoy => by
    simp only [shFieldsOf] at h
    split at h
    · rename_i s i hs hi
      split at h
      · rename_i hc
        obtain ⟨hn, rfl, hsz⟩ := hc
        simp only [Option.map_eq_some_iff] at h
        obtain ⟨rest, hrest, rfl⟩ := h
        obtain ⟨desc, hd, h1⟩ := hdesc _ _ hs
        have hxl := fits.length hx
        have hyl := fits.length hy
        simp only [List.length_append, List.length_drop] at hxl hyl
        obtain ⟨hx1, hx2⟩ := fits.split hx
        obtain ⟨hy1, hy2⟩ := fits.split hy
        rw [List.drop_drop] at hx2 hy2
        rw [hsz] at h1
        have p1 := fun w => run_part (P := P) w hd hi (xs := xs) (off := f.offset) h1 (by omega)
        have p2 := fun w => run_part (P := P) w hd hi (xs := ys) (off := f.offset) h1 (by omega)
        have hr := ih _ _ _ hs hd _ _ w hx1 hy1
        rw [hsz] at hr
        have hsplit : veqs (xs.drop f.offset) (ys.drop f.offset) = (veqs ((xs.drop f.offset).take i.size) ((ys.drop f.offset).take i.size) && veqs (xs.drop (f.offset + s.length)) (ys.drop (f.offset + s.length))) := by
          have a1 : xs.drop f.offset = (xs.drop f.offset).take i.size ++ xs.drop (f.offset + s.length) := by rw [hsz, ← List.drop_drop, List.take_append_drop]
          have a2 : ys.drop f.offset = (ys.drop f.offset).take i.size ++ ys.drop (f.offset + s.length) := by rw [hsz, ← List.drop_drop, List.take_append_drop]
          rw [a1, a2, veqs_append (by simp; omega)]
          rw [← a1, ← a2]
        simp only [Op.eqFields, hn, ne_eq, not_false_eq_true, if_true, Sem.run_bind, p1, p2, Result.andThen_ok, hr]
        rw [hsplit]
        cases hb : veqs ((xs.drop f.offset).take i.size) ((ys.drop f.offset).take i.size)
        · simp
        · simp only [Bool.not_true, Bool.false_eq_true, if_false, Bool.true_and]
          exact eq_fields ih hdesc xs ys fs _ rest w hrest hx2 hy2 (by omega) (by omega)
      · cases h
    · cases h

theorem equalIn_sh : ∀ (d : Nat) (t : TypeId) (shs : List Sh) (desc : TypeDesc), shOf P d t = some shs → P.underlying t = some desc → ∀ (xs ys : List Value) (w : World), fits shs xs → fits shs ys →
    (Op.equalIn d t (mkV desc xs) (mkV desc ys)).run P w = .ok (veqs xs ys) w
  | 0, t, shs, desc, h, _, _, _, _, _, _ => by simp [shOf] at h
  | d + 1, t, shs, desc, h, hu, xs, ys, w, hx, hy => by
    simp only [shOf, hu] at h
    have one : ∀ {s : Sh} {zs : List Value}, fits [s] zs → ∃ v, zs = [v] ∧ fit s v = true := by
      intro s zs hz
      simp only [fits] at hz
      obtain ⟨v, vs', rfl, h1, rfl⟩ := hz
      exact ⟨v, rfl, h1⟩
    cases desc
    case bool =>
      simp only [Option.some.injEq] at h
      subst h
      obtain ⟨x, rfl, gx⟩ := one hx
      obtain ⟨y, rfl, gy⟩ := one hy
      cases x <;> first | exact absurd gx Bool.false_ne_true | skip
      cases y <;> first | exact absurd gy Bool.false_ne_true | skip
      simp [mkV, aggDesc, veqs, veq, Op.equalIn, run_underlying hu]
    case int k =>
      simp only [Option.some.injEq] at h
      subst h
      obtain ⟨x, rfl, gx⟩ := one hx
      obtain ⟨y, rfl, gy⟩ := one hy
      cases x <;> first | exact absurd gx Bool.false_ne_true | skip
      simp only [fit, beq_iff_eq] at gx
      cases y <;> first | exact absurd gy Bool.false_ne_true | skip
      simp only [fit, beq_iff_eq] at gy
      subst gx gy
      simp [mkV, aggDesc, veqs, veq, Op.equalIn, run_underlying hu]
    case string =>
      simp only [Option.some.injEq] at h
      subst h
      obtain ⟨x, rfl, gx⟩ := one hx
      obtain ⟨y, rfl, gy⟩ := one hy
      cases x <;> first | exact absurd gx Bool.false_ne_true | skip
      cases y <;> first | exact absurd gy Bool.false_ne_true | skip
      simp [mkV, aggDesc, veqs, veq, Op.equalIn, run_underlying hu, beq_toListBytes]
    case struct fs =>
      replace h : (if P.stoodInHeld t then none else shFieldsOf P (shOf P d) 0 fs.toList) = some shs := h
      split at h
      · cases h
      · rename_i hp
        have hfo : P.fieldsOf t = fs := by simp [Program.fieldsOf, hu]
        simp only [mkV, aggDesc, if_true]
        rw [run_equalIn_struct w d t _ _ (by rw [hfo]; exact hu) (by simpa using hp), hfo]
        have := eq_fields (fun t shs desc => equalIn_sh d t shs desc) (fun t shs hs => by
          cases d with
          | zero => simp [shOf] at hs
          | succ d => exact sh_desc hs) xs ys fs.toList 0 shs w h (by simpa using hx) (by simpa using hy) (by omega) (by omega)
        simpa using this
    case array n e =>
      replace h : (match shOf P d e, P.info? e with
        | some s, some i => if s.length = i.size ∧ 0 < i.size then some ((List.replicate n s).flatten) else none
        | _, _ => none) = some shs := h
      split at h
      · rename_i s i hs hi
        split at h
        · rename_i hc
          simp only [Option.some.injEq] at h
          subst h
          have hde : ∃ desc, P.underlying e = some desc ∧ (aggDesc desc = true ∨ s.length = 1) := by
            cases d with
            | zero => simp [shOf] at hs
            | succ d => exact sh_desc hs
          obtain ⟨de, hd, h1⟩ := hde
          rw [hc.1] at h1
          have := eq_arr hd hi h1 hc.1 hc.2 (fun xs ys w => equalIn_sh d e s de hs hd xs ys w) xs ys n 0 w (by simpa using hx) (by simpa using hy)
          simp only [mkV, aggDesc, if_true, Op.equalIn, Sem.run_bind, run_underlying hu, Result.andThen_ok, run_sizeOf hi, Std.Legacy.Range.forIn_eq_forIn_range', Std.Legacy.Range.size, Nat.sub_zero, Nat.add_sub_cancel, Nat.div_one]
          simp only [Nat.zero_mul, List.drop_zero] at this
          refine (congrArg (fun r => Result.andThen r _) this).trans ?_
          cases veqs xs ys <;> rfl
        · cases h
      · cases h
    all_goals exact absurd h (by simp)
end
end Go.DM
/- The D-machine, part G: the model's operations read as the machine's, one by one. Conditions: none. -/
namespace Go.DM
open Go.RowKit
set_option linter.unusedSimpArgs false
set_option linter.unusedVariables false
set_option linter.unusedSectionVars false
variable [Laid]

def ofParts (l : List (Nat × Operand)) (place : Nat → Option (Nat × Nat)) : Option (List (Nat × Nat × Opd)) :=
  l.mapM fun p => do
    let q ← place p.1
    let x ← Opd.of p.2
    pure (q.1, q.2, x)

/-- Where the parts of a literal of a struct or array type lie. -/
def places (P : Program) (t : TypeId) : Option (Nat → Option (Nat × Nat)) :=
  match P.underlying t with
  | some (.struct fields) => (fields.toList.mapM fun f => (P.info? f.type).map fun i => (f.offset, i.size)).map fun pl k => pl[k]?
  | some (.array _ e) => (P.info? e).map fun ie k => some (k * ie.size, ie.size)
  | _ => none

def optOpd : Option Operand → Option (Option Opd)
  | none => some none
  | some x => (Opd.of x).map some

/-- Is this the nil constant of a type without equality? Which? -/
def nilKind : TypeDesc → Opd → Option Nat
  | .slice _, .con .nil0 => some 0
  | .pointer _, .con (.v (.raw (.pointer none))) => some 1
  | .func _ _ _, .con (.v (.raw .nilFunc)) => some 2
  | _, _ => none
/-- How a map's keys are compared. -/
def keyInfo (P : Program) (k : TypeId) : Option (List Sh × Bool) :=
  match P.underlying k, shOf P 10000 k with
  | some d, some s => some (s, aggDesc d)
  | _, _ => none
/-- The zero value of a type. -/
def zeroD (P : Program) (e : TypeId) : Option DV := do
  let i ← P.info? e
  let z ← i.zero
  match z with
  | .agg cs => (cs.toList.mapM constD).map .agg
  | z => constD z

def compileBin (P : Program) (op : BinOp) (t : TypeId) (x y : Opd) : Option DOp :=
  match P.underlying t with
  | some (.int _) => match op with
    | .add | .sub | .mul | .quo | .rem | .eql | .neq | .lss | .leq | .gtr | .geq | .shl | .shr | .and | .or | .xor => some (.bin op x y)
    | _ => none
  | some d => match op, shOf P 10000 t with
    | .eql, some shs => if P.eqGuardType P.depth t then none else some (.eqT false (aggDesc d) shs x y)
    | .neq, some shs => if P.eqGuardType P.depth t then none else some (.eqT true (aggDesc d) shs x y)
    | .eql, none => (nilKind d y).map fun k => .isNil k false x
    | .neq, none => (nilKind d y).map fun k => .isNil k true x
    | _, _ => none
  | none => none

def compileCall (P : Program) (c : Call) : Option DOp :=
  match c.callee with
  | .value (.func f) => match P.funcs[f]? with
    | some fn => if fn.name = "runtime.NumGoroutine" ∨ fn.body.isNone then none else (c.args.toList.mapM Opd.of).map (.call f)
    | none => none
  | .value (.tmp t) => (c.args.toList.mapM Opd.of).map (.callv (.tmp t))
  | .builtin .len => match c.args.toList, c.argTypes.toList with
    | [x], [t] => match P.underlying t with
      | some (.slice _) => (Opd.of x).map .len
      | some .string => (Opd.of x).map .lenS
      | some (.map _ _) => (Opd.of x).map .lenM
      | _ => none
    | _, _ => none
  | .builtin .copy => match c.args.toList, c.argTypes.toList with
    | [x, y], [t, _] => match P.underlying t with
      | some (.slice e) => match P.info? e with
        | some i => do return .copy i.size (← Opd.of x) (← Opd.of y)
        | none => none
      | _ => none
    | _, _ => none
  | .builtin .delete => match c.args.toList, c.argTypes.toList with
    | [x, k], t :: _ => match P.underlying t with
      | some (.map kt _) => match keyInfo P kt with
        | some ki => do return .mapDel ki.1 ki.2 (← Opd.of x) (← Opd.of k)
        | none => none
      | _ => none
    | _, _ => none
  | .builtin .min => match c.args.toList with
    | [x, y] => do return .minmax false (← Opd.of x) (← Opd.of y)
    | _ => none
  | .builtin .max => match c.args.toList with
    | [x, y] => do return .minmax true (← Opd.of x) (← Opd.of y)
    | _ => none
  | .builtin .append => match c.args.toList, c.argTypes.toList with
    | [x, y], [t, t'] => if t ≠ t' then none else match P.underlying t with
      | some (.slice e) => match P.info? e with
        | some i => match i.zero with
          | some z => if z.cells.size = i.size ∧ 0 < i.size then do return .append e i.size i.bytes (← Opd.of x) (← Opd.of y) else none
          | none => none
        | none => none
      | _ => none
    | _, _ => none
  | _ => none

/-- One operation of the model, read. -/
def compileOp (P : Program) (o : Oper) : Option DOp :=
  match o.op with
  | .move x | .assign x => (Opd.of x).map .mov
  | .pick c a b => do return .pick (← Opd.of c) (← Opd.of a) (← Opd.of b)
  | .alloc e => do
    let i ← P.info? e
    let z ← i.zero
    return .alloc (← z.cells.toList.mapM constD)
  | .box _ x => (Opd.of x).map .box
  | .build t parts => do
    let i ← P.info? t
    let z ← i.zero
    let zs ← z.cells.toList.mapM constD
    let pl ← places P t
    return .build zs (← ofParts parts.toList pl)
  | .buildSlice t len parts =>
    match P.underlying t with
    | some (.slice e) => do
      let ei ← P.info? e
      if len * ei.size > 2 ^ 24 ∨ ei.size = 0 then none else
      let z ← ei.zero
      let zs ← (((Array.range (len * ei.size)).map (z.cells[· % z.cells.size]!)).toList).mapM constD
      return .bslice len ei.size zs (← ofParts parts.toList fun k => some (k * ei.size, ei.size))
    | _ => none
  | .load t a => match P.underlying t, P.info? t with
    | some d, some i => (Opd.of a).map (.load i.size (aggDesc d))
    | _, _ => none
  | .store t a x => do
    let i ← P.info? t
    return .store i.size (← Opd.of a) (← Opd.of x)
  | .nilCheck x => (Opd.of x).map .nilCheck
  | .binOp op t x y _ => do compileBin P op t (← Opd.of x) (← Opd.of y)
  | .unOp op _ x => (Opd.of x).map (.un op)
  | .convert src dst x => match P.underlying src, P.underlying dst with
    | some (.int _), some (.int k) => (Opd.of x).map (.conv k)
    | _, _ => none
  | .fieldAddr s x f => match P.underlying s with
    | some (.struct fs) => match fs[f]? with
      | some fd => match P.info? fd.type with
        | some fi => if fi.size = 0 then none else (Opd.of x).map (.addOff fd.offset)
        | none => none
      | none => none
    | _ => none
  | .field s x f => match P.underlying s with
    | some (.struct fs) => match fs[f]? with
      | some fd => match P.info? fd.type, P.underlying fd.type with
        | some fi, some d => (Opd.of x).map (.field fd.offset fi.size (aggDesc d))
        | _, _ => none
      | none => none
    | _ => none
  | .indexAddr t x ix => match P.underlying t with
    | some (.slice e) => match P.info? e with
      | some i => do return .idxAddr i.size (← Opd.of x) (← Opd.of ix)
      | none => none
    | some (.array n e) => match P.info? e with
      | some i => do return .arrAddr n i.size (← Opd.of x) (← Opd.of ix)
      | none => none
    | _ => none
  | .slice t x lo hi none => match P.underlying t with
    | some (.slice e) => match P.info? e with
      | some i => do return .slice i.size (← Opd.of x) (← optOpd lo) (← optOpd hi)
      | none => none
    | _ => none
  | .extract t i => (Opd.of t).map (.extract i)
  | .makeSlice t l c => match P.underlying t with
    | some (.slice e) => match P.info? e with
      | some i => match i.zero with
        | some z => match l, c with
          | .tmp a, .tmp b => if a = b ∧ 0 < i.size then do return .mkSlice e i.size i.bytes (← z.cells.toList.mapM constT) (.tmp a) else none
          | .const (.int k a), .const (.int k' b) => if a = b ∧ k = k' ∧ 0 < i.size then do return .mkSlice e i.size i.bytes (← z.cells.toList.mapM constT) (.con (.v (.int k a))) else none
          | _, _ => none
        | none => none
      | none => none
    | _ => none
  | .makeFunc f first caps => if first.isEmpty then do return .mkFn f (← caps.toList.mapM Opd.of) else none
  | .call c => compileCall P c
  | .makeMap t none => match P.underlying t with
    | some (.map kt _) => (keyInfo P kt).map fun ki => .mkMap ki.1 ki.2
    | _ => none
  | .lookup t x k ok => match P.underlying t with
    | some (.map kt e) => match keyInfo P kt, zeroD P e with
      | some ki, some z => do return .lookup ki.1 ki.2 z ok (← Opd.of x) (← Opd.of k)
      | _, _ => none
    | _ => none
  | .mapUpdate t x k y => match P.underlying t with
    | some (.map kt _) => match keyInfo P kt with
      | some ki => do return .mapUpd ki.1 ki.2 (← Opd.of x) (← Opd.of k) (← Opd.of y)
      | none => none
    | _ => none
  | .mapEntry t x k => match P.underlying t with
    | some (.map kt e) => match keyInfo P kt, zeroD P e with
      | some ki, some z => do return .mapEnt ki.1 ki.2 z (← Opd.of x) (← Opd.of k)
      | _, _ => none
    | _ => none
  | .entryStore _ x s y => do return .entSt (← Opd.of x) (← Opd.of s) (← Opd.of y)
  | .range t x => match P.underlying t with
    | some (.map _ _) => (Opd.of x).map .rangeM
    | _ => none
  | .entry x => (Opd.of x).map .entryM
  | .index t x i => match P.underlying t with
    | some .string => do return .indexS (← Opd.of x) (← Opd.of i)
    | _ => none
  | .panic _ | .makeInterface .. => some .fail
  | _ => none

section
variable {w : World} {W : Nat → Prop} {objs : Obs} {L : Loc}
theorem foldl_set (off : Nat) : ∀ (vs : List Value) (j0 : Nat) (cs : Array Value), off + j0 + vs.length ≤ cs.size →
    (vs.zipIdx j0).foldl (fun cs (x : Value × Nat) => cs.setIfInBounds (off + x.2) x.1) cs = (splice cs.toList (off + j0) vs).toArray
  | [], j0, cs, _ => by simp [splice]
  | v :: vs, j0, cs, h => by
    simp only [List.length_cons] at h
    simp only [List.zipIdx_cons, List.foldl_cons]
    rw [foldl_set off vs (j0 + 1) _ (by simp; omega)]
    congr 1
    simp only [splice, Array.toList_setIfInBounds, List.length_cons]
    have e := list_seg_step cs.toList (off + j0) v vs (by simp; omega)
    simpa [Nat.add_assoc] using e

theorem fill_rel {a : Act} {ρ : Nat → DV} (hg : GOk w (WW W objs L)) (hρ : ∀ t, RelD w W objs L (ρ t) (a.tmps.getD t Go.undef)) {place : Nat → Option (Nat × Nat)} : ∀ (ps : List (Nat × Operand)) (qs : List (Nat × Nat × Opd)), ofParts ps place = some qs →
    ∀ (cells : Array Value) (ds : List DV), RelDs w W objs L ds cells.toList → fillOk cells.size (qs.map fun p => (p.1, p.2.1, p.2.2.ev ρ)) →
      ∃ cells', Instr.fill place cells (ps.map fun p => (p.1, a.eval p.2)) = some cells' ∧ RelDs w W objs L (fillD ds (qs.map fun p => (p.1, p.2.1, p.2.2.ev ρ))) cells'.toList ∧ cells'.size = cells.size
  | [], qs, h, cells, ds, hd, _ => by
    simp [ofParts] at h
    subst h
    exact ⟨cells, rfl, by simpa [fillD] using hd, rfl⟩
  | p :: ps, qs, h, cells, ds, hd, hok => by
    simp only [ofParts, List.mapM_cons, Option.pure_def, Option.bind_eq_bind, Option.bind_eq_some_iff, Option.some.injEq] at h
    obtain ⟨q, ⟨pl, hpl, x, hx, rfl⟩, qs', hqs, rfl⟩ := h
    simp only [List.map_cons, fillOk] at hok
    obtain ⟨hl, hfit, hce, hrest⟩ := hok
    have hv := Opd.of_rel hg hρ hx
    have hcs := cellables_one hv hce
    have hcl : (a.eval p.2).cells.size = pl.2 := by have := RelDs.length hcs; simpa [hl] using this
    have hset : ((a.eval p.2).cells.zipIdx.foldl (fun cs (x : Value × Nat) => cs.setIfInBounds (pl.1 + x.2) x.1) cells) = (splice cells.toList pl.1 (a.eval p.2).cells.toList).toArray := by
      rw [← Array.foldl_toList, Array.toList_zipIdx]
      have := foldl_set pl.1 (a.eval p.2).cells.toList 0 cells (by simp [hcl]; omega)
      simpa using this
    have hd' : RelDs w W objs L (splice ds pl.1 (cellsOf (x.ev ρ))) (splice cells.toList pl.1 (a.eval p.2).cells.toList).toArray.toList := by
      simpa using RelDs.splice pl.1 hd hcs
    have hsz : (splice cells.toList pl.1 (a.eval p.2).cells.toList).toArray.size = cells.size := by
      have := length_splice (l := cells.toList) (new := (a.eval p.2).cells.toList) (off := pl.1) (by simp [hcl]; omega)
      simpa using this
    obtain ⟨cells', h1, h2, h3⟩ := fill_rel hg hρ ps qs' (by simpa [ofParts] using hqs) _ _ hd' (by rw [hsz]; exact hrest)
    refine ⟨cells', ?_, by simpa only [List.map_cons, fillD] using h2, h3.trans hsz⟩
    simp only [List.map_cons, Instr.fill, hpl, hcl]
    rw [if_neg (by simp; omega), hset]
    exact h1

theorem run_buildSlice {P : Program} (w : World) {t e : TypeId} {i : TypeInfo} {z : Value} (ht : P.underlying t = some (.slice e)) (hi : P.info? e = some i) (hz : i.zero = some z) (len : Nat) (hlen : ¬ len * i.size > 2 ^ 24) {parts : Array (Nat × Value)} {cells : Array Value}
    (h : Instr.fill (fun k => some (k * i.size, i.size)) ((Array.range (len * i.size)).map (z.cells[· % z.cells.size]!)) parts.toList = some cells) :
    (Instr.buildSlice t len parts).run P w = .ok (.slice (some ⟨w.heap.size, 0, none⟩) len len) (w.alloc (.cells cells e)) := by
  by_cases h0 : len * i.size = 0
  · have h' : Instr.fill (fun k => some (k * i.size, i.size)) #[] parts.toList = some cells := by
      rw [h0] at h
      simpa [Array.range_zero'] using h
    simp [Instr.buildSlice, run_underlying ht, run_sizeOf hi, h0, h', newRow, Array.range_zero']
  · simp [Instr.buildSlice, run_underlying ht, run_sizeOf hi, zeroValue, typeInfo, hi, hz, h0, hlen, h, newRow]
end
end Go.DM
