/- The D-machine, part S: a state told anew: names changed, objects dropped, versions set back, arrays and boxes that are written no more told as trees. Conditions: none. -/
import Derived.Test.YtecgedikabjcdaaDmQ
namespace Go.DM
open Go.RowKit
set_option linter.unusedSimpArgs false
set_option linter.unusedVariables false

/-- The object of the old name r is not kept. -/
def gone (objs' : Obs) (σ : Nat → Nat) (r : Nat) : Prop := ∀ r', objs' r' ≠ none → σ r' ≠ r

def corPtr (objs objs' : Obs) (σ : Nat → Nat) (r off : Nat) : DV → Prop
  | .ptr r' off' => r = σ r' ∧ off = off' ∧ ∃ cs, objs' r' = some (.box cs)
  | .bptr cs off' => off = off' ∧ objs r = some (.box (cs.map .v)) ∧ gone objs' σ r
  | .v (.box cs) => off = 0 ∧ objs r = some (.box (cs.map .v)) ∧ gone objs' σ r
  | _ => False
def corAref (objs objs' : Obs) (σ : Nat → Nat) (r ver : Nat) : DV → Prop
  | .aref r' ver' => r = σ r' ∧ ∃ e sz rows e' sz' rows', objs r = some (.arr ver e sz rows) ∧ objs' r' = some (.arr ver' e' sz' rows')
  | .v (.sl rows) => (∃ e sz, objs r = some (.arr ver e sz rows)) ∧ gone objs' σ r
  | _ => False
def corAptr (objs objs' : Obs) (σ : Nat → Nat) (r ver : Nat) (i : Int) (off : Nat) : DV → Prop
  | .aptr r' ver' i' off' => r = σ r' ∧ i = i' ∧ off = off' ∧ ∃ e sz rows e' sz' rows', objs r = some (.arr ver e sz rows) ∧ objs' r' = some (.arr ver' e' sz' rows') ∧ sz = sz' ∧ rows.length = rows'.length
  | _ => False
/-- The cells of a bundle. -/
def bundle : DV → Option (List DV)
  | .agg ds => some ds
  | .v (.agg ts) => some (ts.map .v)
  | _ => none
mutual
/-- The new value says no more than the old. -/
def corD (objs objs' : Obs) (σ : Nat → Nat) : DV → DV → Prop
  | .nil0, d' => d' = .undef ∨ d' = .nil0 ∨ d' = .v (.sl [])
  | .ptr r off, d' => d' = .undef ∨ corPtr objs objs' σ r off d'
  | .aref r ver, d' => d' = .undef ∨ corAref objs objs' σ r ver d'
  | .aptr r ver i off, d' => d' = .undef ∨ corAptr objs objs' σ r ver i off d'
  | .agg ds, d' => d' = .undef ∨ match bundle d' with | some ds' => corDs objs objs' σ ds ds' | none => False
  | .undef, d' => d' = .undef
  | .skip, d' => d' = .undef ∨ d' = .skip
  | .v t, d' => d' = .undef ∨ d' = .v t
  | .tptr rows i off, d' => d' = .undef ∨ d' = .tptr rows i off
  | .bptr cs off, d' => d' = .undef ∨ d' = .bptr cs off
  | .yld, d' => d' = .undef ∨ d' = .yld
def corDs (objs objs' : Obs) (σ : Nat → Nat) : List DV → List DV → Prop
  | [], ds' => ds' = []
  | d :: ds, ds' => match ds' with
    | [] => False
    | d' :: ds' => corD objs objs' σ d d' ∧ corDs objs objs' σ ds ds'
end
def corOb (objs objs' : Obs) (σ : Nat → Nat) : Ob → Ob → Prop
  | .box cs, .box cs' => corDs objs objs' σ cs cs'
  | .arr _ e sz rows, .arr _ e' sz' rows' => e = e' ∧ sz = sz' ∧ rows = rows'
  | _, _ => False
def sameVer : Ob → Ob → Prop
  | .box _, .box _ => True
  | .arr v _ sz rows, .arr v' _ sz' rows' => v = v' ∧ sz = sz' ∧ rows.length = rows'.length
  | _, _ => False

def Loc.ren (L : Loc) (σ : Nat → Nat) : Loc := ⟨fun r => L.blk (σ r), fun r => L.sl (σ r), L.yl⟩

section
variable {base : Nat} {W M : Nat → Prop} {w0 w : World} {objs objs' : Obs} {L : Loc} {σ : Nat → Nat}

theorem own_cor {o o' : Ob} (h : corOb objs objs' σ o o') (r : Nat) : (L.ren σ).own r o' = L.own (σ r) o := by
  cases o <;> cases o' <;> first | rfl | exact h.elim

theorem ww_cor (hob : ∀ r' o', objs' r' = some o' → ∃ o, objs (σ r') = some o ∧ corOb objs objs' σ o o') (b : Nat) (h : WW W objs' (L.ren σ) b) : WW W objs L b := by
  rcases h with h | ⟨r', o', h1, h2⟩
  · exact .inl h
  · obtain ⟨o, h3, h4⟩ := hob r' o' h1
    exact .inr ⟨σ r', o, h3, by rw [← own_cor h4]; exact h2⟩

theorem gone_not (hO : RelO base W M w0 objs w L) (hob : ∀ r' o', objs' r' = some o' → ∃ o, objs (σ r') = some o ∧ corOb objs objs' σ o o') {r b : Nat} {o : Ob} (hr : objs r = some o) (hb : L.own r o = some b) (hg : gone objs' σ r) : ¬ WW W objs' (L.ren σ) b := by
  rintro (h | ⟨r', o', h1, h2⟩)
  · exact hO.outer r o b hr hb h
  · obtain ⟨o2, h3, h4⟩ := hob r' o' h1
    rw [own_cor h4] at h2
    exact hO.apart r (σ r') o o2 b (fun e => hg r' (by rw [h1]; exact fun e => by cases e) e.symm) hr h3 hb h2

theorem freeze_box (hO : RelO base W M w0 objs w L) (hob : ∀ r' o', objs' r' = some o' → ∃ o, objs (σ r') = some o ∧ corOb objs objs' σ o o') {r : Nat} {cs : List T} (hr : objs r = some (.box (cs.map .v))) (hg : gone objs' σ r) :
    L.blk r < w.heap.size ∧ ¬ WW W objs' (L.ren σ) (L.blk r) ∧ RelAt w (WW W objs' (L.ren σ)) (L.blk r) 0 cs := by
  have hb := hO.ob r _ hr
  obtain ⟨c, e, hc, hrel, _⟩ := hb
  refine ⟨(Array.getElem?_eq_some_iff.1 hc).1, gone_not hO hob hr rfl hg, RelAt.of_cells cs 0 fun j t hj => ?_⟩
  have hd : (cs.map DV.v)[j]? = some (.v t) := by simp [hj]
  obtain ⟨v, hv, h1, h2⟩ := RelDs.get hrel hd
  simp only [RelD] at h2
  refine ⟨v, ?_, h1, RelT.keep (Keeps.refl (WW W objs L) w).toKeepsC (fun b _ hb => ww_cor hob b hb) t v h2⟩
  simp only [World.cell?, hc, Nat.zero_add]
  simpa using hv

theorem freeze_arr (hO : RelO base W M w0 objs w L) (hob : ∀ r' o', objs' r' = some o' → ∃ o, objs (σ r') = some o ∧ corOb objs objs' σ o o') {r ver e sz : Nat} {rows : List (List T)} (hr : objs r = some (.arr ver e sz rows)) (hg : gone objs' σ r) :
    RelT w (WW W objs' (L.ren σ)) (.sl rows) (L.sl r) := by
  have hob2 := hO.ob r _ hr
  obtain ⟨hsz, hrows, hm, hal⟩ := hob2
  simp only [RelT]
  rcases hal with ⟨rfl, p, hp⟩ | ⟨g', cap, cur, hv', hp, hh, hle, hcap, hcur, hrel⟩
  · exact .inl ⟨rfl, p, 0, hp⟩
  · have hcb : capBlock (L.sl r) = some g' := by simp [hv', capBlock, Nat.pos_iff_ne_zero.1 hp]
    refine .inr ⟨g', 0, cap, sz, hv', (Array.getElem?_eq_some_iff.1 hh).1, gone_not hO hob hr (by simpa [Loc.own] using hcb) hg, hle, ?_⟩
    have hrr := ObOk.rows (hO.ob r _ hr) (g := g') hcb
    obtain ⟨vs, hvl, hvr, hvc⟩ := RelRows.flatten hrr
    exact RelRows.of_flatten (RelL.keep (Keeps.refl (WW W objs L) w).toKeepsC (fun b _ hb => ww_cor hob b hb) _ _ hvr) hrows hvc

theorem relL_of_ds {ts : List T} : ∀ {vs : List Value}, RelDs w W objs L (ts.map .v) vs → RelL w (WW W objs L) ts vs := by
  induction ts with
  | nil => intro vs h; simpa [RelDs, RelL] using h
  | cons t ts ih =>
    intro vs h
    simp only [List.map_cons, RelDs] at h
    obtain ⟨v, vs', rfl, h1, h2, h3⟩ := h
    simp only [RelD] at h2
    simp only [RelL]
    exact ⟨v, vs', rfl, h1, h2, ih h3⟩

theorem cor_rel (hO : RelO base W M w0 objs w L) (hob : ∀ r' o', objs' r' = some o' → ∃ o, objs (σ r') = some o ∧ corOb objs objs' σ o o') :
    ∀ n, (∀ (d d' : DV) (x : Value), SizeOf.sizeOf d < n → corD objs objs' σ d d' → RelD w W objs L d x → RelD w W objs' (L.ren σ) d' x) ∧
      (∀ (ds ds' : List DV) (xs : List Value), SizeOf.sizeOf ds < n → corDs objs objs' σ ds ds' → RelDs w W objs L ds xs → RelDs w W objs' (L.ren σ) ds' xs) := by
  have keepT : ∀ (t : T) (x : Value), RelT w (WW W objs L) t x → RelT w (WW W objs' (L.ren σ)) t x := fun t x h => RelT.keep (Keeps.refl (WW W objs L) w).toKeepsC (fun b _ hb => ww_cor hob b hb) t x h
  intro n
  induction n with
  | zero => exact ⟨fun _ _ _ h => by omega, fun _ _ _ h => by omega⟩
  | succ n ih =>
    refine ⟨fun d d' x hn hc hr => ?_, fun ds ds' xs hn hc hr => ?_⟩
    · by_cases hu : d' = .undef
      · subst hu; simp [RelD]
      cases d with
      | undef => simp only [corD] at hc; exact absurd hc hu
      | skip => simp only [corD, hu, false_or] at hc; subst hc; simpa only [RelD] using hr
      | yld => simp only [corD, hu, false_or] at hc; subst hc; simp only [RelD, Loc.ren] at hr ⊢; exact hr
      | v t => simp only [corD, hu, false_or] at hc; subst hc; simp only [RelD] at hr ⊢; exact keepT t x hr
      | tptr rows i off =>
        simp only [corD, hu, false_or] at hc
        subst hc
        simp only [RelD] at hr ⊢
        obtain ⟨b, o, sz, hx, hb, hnw, hrr, h1, h2⟩ := hr
        exact ⟨b, o, sz, hx, hb, fun k => hnw (ww_cor hob b k), RelRows.keep (Keeps.refl (WW W objs L) w).toKeepsC (fun b _ hb => ww_cor hob b hb) hb hnw sz o rows hrr, h1, h2⟩
      | bptr cs off =>
        simp only [corD, hu, false_or] at hc
        subst hc
        simp only [RelD] at hr ⊢
        obtain ⟨b, o, hx, hb, hnw, hrr⟩ := hr
        exact ⟨b, o, hx, hb, fun k => hnw (ww_cor hob b k), RelAt.keep (Keeps.refl (WW W objs L) w).toKeepsC (fun b _ hb => ww_cor hob b hb) hb hnw o cs hrr⟩
      | nil0 =>
        simp only [corD, hu, false_or] at hc
        rcases hc with rfl | rfl
        · simpa only [RelD] using hr
        · simp only [RelD] at hr
          obtain ⟨a, rfl⟩ := hr
          simp only [RelD, RelT]
          exact .inl ⟨trivial, a, 0, rfl⟩
      | ptr r off =>
        simp only [corD, hu, false_or] at hc
        simp only [RelD] at hr
        obtain ⟨⟨cs0, hcs0⟩, rfl⟩ := hr
        cases d' with
        | ptr r' off' =>
          obtain ⟨rfl, rfl, cs, hcs⟩ := hc
          simp only [RelD]
          exact ⟨⟨cs, hcs⟩, rfl⟩
        | bptr cs off' =>
          obtain ⟨rfl, hob2, hg⟩ := hc
          obtain ⟨h1, h2, h3⟩ := freeze_box hO hob hob2 hg
          simp only [RelD]
          exact ⟨L.blk r, 0, by simp, h1, h2, h3⟩
        | v t =>
          cases t with
          | box cs =>
            obtain ⟨rfl, hob2, hg⟩ := hc
            obtain ⟨h1, h2, h3⟩ := freeze_box hO hob hob2 hg
            simp only [RelD, RelT]
            exact ⟨L.blk r, 0, rfl, h1, h2, h3⟩
          | _ => exact hc.elim
        | _ => exact hc.elim
      | aref r ver =>
        simp only [corD, hu, false_or] at hc
        simp only [RelD] at hr
        obtain ⟨hsh, ver2, e2, sz2, rows2, hc2, hle2, hx⟩ := hr
        cases d' with
        | aref r' ver' =>
          obtain ⟨rfl, e, sz, rows, e', sz', rows', h1, h2⟩ := hc
          rw [hc2] at h1
          simp only [Option.some.injEq, Ob.arr.injEq] at h1
          obtain ⟨rfl, _⟩ := h1
          simp only [RelD]
          exact ⟨hsh, ver', e', sz', rows', h2, Nat.le_refl _, fun _ => hx rfl⟩
        | v t =>
          cases t with
          | sl rows =>
            obtain ⟨⟨e, sz, h1⟩, hg⟩ := hc
            rw [hc2] at h1
            simp only [Option.some.injEq, Ob.arr.injEq] at h1
            obtain ⟨rfl, rfl, rfl, rfl⟩ := h1
            have hx := hx rfl
            subst hx
            simp only [RelD]
            exact freeze_arr hO hob hc2 hg
          | _ => exact hc.elim
        | _ => exact hc.elim
      | aptr r ver i off =>
        simp only [corD, hu, false_or] at hc
        simp only [RelD] at hr
        obtain ⟨hsh, ver2, e2, sz2, rows2, hc2, hle2, hx⟩ := hr
        cases d' with
        | aptr r' ver' i' off' =>
          obtain ⟨rfl, rfl, rfl, e, sz, rows, e', sz', rows', h1, h2, h3, h4⟩ := hc
          rw [hc2] at h1
          simp only [Option.some.injEq, Ob.arr.injEq] at h1
          obtain ⟨rfl, rfl, rfl, rfl⟩ := h1
          simp only [RelD]
          refine ⟨hsh, ver', e', sz', rows', h2, Nat.le_refl _, fun _ => ?_⟩
          obtain ⟨g, k1, k2, k3, k4⟩ := hx rfl
          exact ⟨g, k1, by rw [← h3]; exact k2, k3, by rw [← h4]; exact k4⟩
        | _ => exact hc.elim
      | agg ds =>
        simp only [corD, hu, false_or] at hc
        simp only [RelD] at hr
        obtain ⟨vs, rfl, hr⟩ := hr
        cases d' with
        | agg ds' =>
          simp only [bundle] at hc
          simp only [RelD]
          exact ⟨vs, rfl, ih.2 ds ds' _ (by simp at hn ⊢; omega) hc hr⟩
        | v t =>
          cases t with
          | agg ts =>
            simp only [bundle] at hc
            simp only [RelD, RelT]
            exact ⟨vs, rfl, relL_of_ds (ih.2 ds _ _ (by simp at hn ⊢; omega) hc hr)⟩
          | _ => exact hc.elim
        | _ => exact hc.elim
    · cases ds with
      | nil => simp only [corDs] at hc; subst hc; simpa only [RelDs] using hr
      | cons d ds =>
        cases ds' with
        | nil => simp [corDs] at hc
        | cons d' ds' =>
          simp only [corDs] at hc
          simp only [RelDs] at hr ⊢
          obtain ⟨y, ys, hv, h1, h2, h3⟩ := hr
          exact ⟨y, ys, hv, h1, ih.1 d d' y (by simp at hn ⊢; omega) hc.1 h2, ih.2 ds ds' ys (by simp at hn ⊢; omega) hc.2 h3⟩

/-- A state told anew. -/
theorem Le.cor {st st' : DSt} (σ : Nat → Nat) (hlow : st'.low = st.low) (htodo : st'.todo = st.todo) (hfresh : ∀ r, st'.nxt ≤ r → st'.objs r = none)
    (hob : ∀ r' o', st'.objs r' = some o' → ∃ o, st.objs (σ r') = some o ∧ corOb st.objs st'.objs σ o o')
    (hinj : ∀ r1 r2, st'.objs r1 ≠ none → st'.objs r2 ≠ none → σ r1 = σ r2 → r1 = r2)
    (hkeep : ∀ r, r < st.low → ∀ o, st.objs r = some o → σ r = r ∧ ∃ o', st'.objs r = some o' ∧ sameVer o o')
    (htm : ∀ k, corD st.objs st'.objs σ (st.tmps k) (st'.tmps k)) : Le st st' := by
  intro κ nt a w L h
  refine ⟨L.ren σ, ⟨?_, ?_, h.r.defers, h.r.bg, ⟨_, hfresh⟩⟩, hfresh, by rw [hlow]; exact h.low, by rw [hlow]; exact h.it⟩
  · obtain ⟨W, base, M, w0, hat, h0⟩ := h.r.ex
    have hO := h0.o
    have cr := fun (d d' : DV) (x : Value) => (cor_rel hO hob (SizeOf.sizeOf d + 1)).1 d d' x (by omega)
    have crs := fun (ds ds' : List DV) (xs : List Value) => (cor_rel hO hob (SizeOf.sizeOf ds + 1)).2 ds ds' xs (by omega)
    refine ⟨W, base, M, w0, by rw [htodo]; exact hat, h0.size, fun t => cr _ _ _ (htm t) (h0.tmps t), ⟨hO.fr, fun r' o' ho' => ?_, fun r1 r2 o1 o2 b hne h1 h2 hb1 hb2 => ?_, fun r' o' b ho' hb => ?_, hO.under⟩⟩
    · obtain ⟨o, ho, hc⟩ := hob r' o' ho'
      have hk := hO.ob (σ r') o ho
      cases o with
      | box cs =>
        cases o' with
        | box cs' =>
          obtain ⟨c, e, hcc, hr, hm⟩ := hk
          exact ⟨c, e, hcc, crs cs cs' _ hc hr, hm⟩
        | arr _ _ _ _ => exact hc.elim
      | arr ver e sz rows =>
        cases o' with
        | box _ => exact hc.elim
        | arr ver' e' sz' rows' =>
          obtain ⟨rfl, rfl, rfl⟩ := hc
          obtain ⟨g1, g2, g3, g4⟩ := hk
          refine ⟨g1, g2, g3, ?_⟩
          rcases g4 with g4 | ⟨g, cap, cur, hv, hp, hh, k1, k2, k3, k4⟩
          · exact .inl g4
          · exact .inr ⟨g, cap, cur, hv, hp, hh, k1, k2, k3, RelL.keep (Keeps.refl (WW W st.objs L) w).toKeepsC (fun b _ hb => ww_cor hob b hb) _ _ k4⟩
    · obtain ⟨p1, q1, c1⟩ := hob r1 o1 h1
      obtain ⟨p2, q2, c2⟩ := hob r2 o2 h2
      rw [own_cor c1] at hb1
      rw [own_cor c2] at hb2
      exact hO.apart (σ r1) (σ r2) p1 p2 b (fun e => hne (hinj r1 r2 (fun e => by rw [show st'.objs r1 = some o1 from h1] at e; cases e) (fun e => by rw [show st'.objs r2 = some o2 from h2] at e; cases e) e)) q1 q2 hb1 hb2
    · obtain ⟨p1, q1, c1⟩ := hob r' o' ho'
      rw [own_cor c1] at hb
      exact hO.outer (σ r') p1 b q1 hb
  · have ha := h.r.adv
    refine ⟨ha.keeps, fun b hb hw => ha.sub b hb (ww_cor hob b hw), fun r cs hr => ?_, fun r ver e sz rows hr => ?_, ha.yl⟩
    · have hlt : r < st.low := Nat.lt_of_not_le fun hle => by rw [h.low r hle] at hr; cases hr
      obtain ⟨e1, cs1, hr1⟩ := ha.box r cs hr
      obtain ⟨hs, o', ho', hv⟩ := hkeep r hlt _ hr1
      cases o' with
      | box cs' => exact ⟨by simp only [Loc.ren, hs]; exact e1, cs', ho'⟩
      | arr _ _ _ _ => exact hv.elim
    · have hlt : r < st.low := Nat.lt_of_not_le fun hle => by rw [h.low r hle] at hr; cases hr
      obtain ⟨v1, e1, s1, r1, hr1, l1, k1⟩ := ha.arr r ver e sz rows hr
      obtain ⟨hs, o', ho', hv⟩ := hkeep r hlt _ hr1
      cases o' with
      | box cs' => exact hv.elim
      | arr v2 e2 s2 r2 =>
        obtain ⟨rfl, rfl, h3⟩ := hv
        exact ⟨v1, e2, s1, r2, ho', l1, fun hv => by
          obtain ⟨a1, a2, a3⟩ := k1 hv
          exact ⟨by simp only [Loc.ren, hs]; exact a1, a2, by rw [← h3]; exact a3⟩⟩
end
end Go.DM
