/- The D-machine, part X: a nil slice told as an array without rows. Conditions: none. -/
import Derived.Test.YtecgedikabjcdaaDmU
namespace Go.DM
open Go.RowKit
set_option linter.unusedSimpArgs false
set_option linter.unusedVariables false

def Loc.at (L : Loc) (q : Nat) (x : Value) : Loc := ⟨L.blk, fun k => if k = q then x else L.sl k, L.yl⟩
section
variable {base : Nat} {W M : Nat → Prop} {w0 w : World} {objs : Obs} {L : Loc}
theorem setO_cases {f : Obs} {q : Nat} {o o' : Ob} {r : Nat} (h : setO f q o r = some o') : (r = q ∧ o' = o) ∨ (r ≠ q ∧ f r = some o') := by
  simp only [setO] at h
  split at h
  · rename_i e; exact .inl ⟨e, (Option.some.inj h).symm⟩
  · rename_i e; exact .inr ⟨e, h⟩
theorem setO_of {f : Obs} {q : Nat} {o o' : Ob} {r : Nat} (h : r ≠ q) (k : f r = some o') : setO f q o r = some o' := by
  simp only [setO, if_neg h, k]
theorem own_at {q : Nat} {x : Value} {r : Nat} {o : Ob} (h : r ≠ q) : (L.at q x).own r o = L.own r o := by
  cases o <;> simp [Loc.own, Loc.at, h]
theorem own_nil {q : Nat} {a : Option Addr} {v e sz : Nat} {rows : List (List T)} : (L.at q (.slice a 0 0)).own q (.arr v e sz rows) = none := by
  cases a <;> simp [Loc.own, Loc.at, capBlock]
theorem ww_nil {q : Nat} {a : Option Addr} {e sz : Nat} {b : Nat} (h : WW W (setO objs q (.arr 0 e sz [])) (L.at q (.slice a 0 0)) b) : WW W objs L b := by
  rcases h with h | ⟨r, o, hr, hb⟩
  · exact .inl h
  · rcases setO_cases hr with ⟨rfl, rfl⟩ | ⟨hne, hr⟩
    · rw [own_nil] at hb; cases hb
    · rw [own_at hne] at hb; exact .inr ⟨r, o, hr, hb⟩
theorem nil_adv {q : Nat} {a : Option Addr} {e sz : Nat} (hq : objs q = none) : Adv W objs L w (setO objs q (.arr 0 e sz [])) (L.at q (.slice a 0 0)) w := by
  refine ⟨Keeps.refl _ _, fun b _ h => ww_nil h, fun r cs hr => ?_, fun r ver e' sz' rows hr => ?_, rfl⟩
  · have hne : r ≠ q := fun h => by rw [h, hq] at hr; cases hr
    exact ⟨rfl, cs, setO_of hne hr⟩
  · have hne : r ≠ q := fun h => by rw [h, hq] at hr; cases hr
    exact ⟨ver, e', sz', rows, setO_of hne hr, Nat.le_refl _, fun _ => ⟨by simp [Loc.at, hne], rfl, rfl⟩⟩
theorem nil_relO (hO : RelO base W M w0 objs w L) {q : Nat} {a : Option Addr} {e sz : Nat} (hsz : 0 < sz) (hq : objs q = none) : RelO base W M w0 (setO objs q (.arr 0 e sz [])) w (L.at q (.slice a 0 0)) := by
  have hA := nil_adv (W := W) (w := w) (L := L) (a := a) (e := e) (sz := sz) hq
  refine ⟨hO.fr, fun r o hr => ?_, fun r r' o o' b hne h1 h2 hb => ?_, fun r o b hr hb => ?_, hO.under⟩
  · rcases setO_cases hr with ⟨rfl, rfl⟩ | ⟨hne, hr⟩
    · refine ⟨hsz, fun x hx => (by cases hx), fun g hg => ?_, .inl ⟨rfl, a, by simp [Loc.at]⟩⟩
      exfalso
      simp only [Loc.at, if_true] at hg
      cases a <;> simp [capBlock] at hg
    · have hk := hO.ob r o hr
      cases o with
      | box cs =>
        obtain ⟨c, f, hcc, hrel, hm⟩ := hk
        exact ⟨c, f, hcc, RelDs.adv hA cs _ hrel, hm⟩
      | arr ver e' sz' rows =>
        obtain ⟨g1, g2, g3, g4⟩ := hk
        have hs : (L.at q (.slice a 0 0)).sl r = L.sl r := by simp [Loc.at, hne]
        refine ⟨g1, g2, by rw [hs]; exact g3, ?_⟩
        rw [hs]
        rcases g4 with g4 | ⟨g, cap, cur, hv, hp, hh, k1, k2, k3, k4⟩
        · exact .inl g4
        · exact .inr ⟨g, cap, cur, hv, hp, hh, k1, k2, k3, RelL.keep (Keeps.refl (WW W objs L) w).toKeepsC (fun b _ hb => ww_nil hb) _ _ k4⟩
  · rcases setO_cases h1 with ⟨rfl, rfl⟩ | ⟨n1, h1⟩
    · rw [own_nil] at hb; cases hb
    · rw [own_at n1] at hb
      rcases setO_cases h2 with ⟨rfl, rfl⟩ | ⟨n2, h2⟩
      · rw [own_nil]; exact fun h => by cases h
      · rw [own_at n2]; exact hO.apart r r' o o' b hne h1 h2 hb
  · rcases setO_cases hr with ⟨rfl, rfl⟩ | ⟨n1, hr⟩
    · rw [own_nil] at hb; cases hb
    · rw [own_at n1] at hb; exact hO.outer r o b hr hb
end

/-- A slot that holds nil is told as an array without rows. -/
theorem Le.nilSlot {tm : Nat → DV} {ob : Obs} {nxt low : Nat} {td : List (List T)} {k : Nat} (e : Nat) {sz : Nat} (hsz : 0 < sz) (hk : tm k = .nil0) :
    Le ⟨tm, ob, nxt, low, td⟩ ⟨updT tm (some k) (.aref nxt 0), setO ob nxt (.arr 0 e sz []), nxt + 1, low, td⟩ := by
  intro κ nt a w L h
  have hq : ob nxt = none := h.fresh nxt (Nat.le_refl _)
  obtain ⟨W, base, M, w0, hat, h0⟩ := h.r.ex
  have hx := h0.tmps k
  simp only [hk, RelD] at hx
  obtain ⟨ad, hx⟩ := hx
  have hA := nil_adv (W := W) (w := w) (L := L) (a := ad) (e := e) (sz := sz) hq
  have hsub := hat.sub
  have hfr : ∀ r, nxt + 1 ≤ r → setO ob nxt (.arr 0 e sz []) r = none := fun r hr => by
    simp only [setO]; rw [if_neg (by omega)]; exact h.fresh r (by simp only; omega)
  refine ⟨L.at nxt (.slice ad 0 0), ⟨⟨W, base, M, w0, hat, h0.size, fun t => ?_, nil_relO h0.o hsz hq⟩, Adv.comp h.r.adv hA hsub.1 hsub.2, h.r.defers, h.r.bg, ⟨_, hfr⟩⟩, hfr, h.low, h.it⟩
  simp only [updT]
  by_cases ht : t = k
  · subst ht
    simp only [if_true, RelD]
    refine ⟨⟨ad, 0, 0, hx⟩, 0, e, sz, [], by simp, Nat.le_refl _, fun _ => ?_⟩
    rw [hx]; simp [Loc.at]
  · simp only [ht, if_false]
    exact RelD.adv hA _ _ (h0.tmps t)

theorem relDs_set {w : World} {W : Nat → Prop} {objs : Obs} {L : Loc} : ∀ (cs : List DV) (xs : List Value) (k : Nat) (d : DV), RelDs w W objs L cs xs → (∀ x, xs[k]? = some x → RelD w W objs L d x) → RelDs w W objs L (cs.set k d) xs
  | [], xs, k, d, h, _ => by simpa using h
  | c :: cs, xs, 0, d, h, hd => by
    simp only [RelDs] at h
    obtain ⟨x, xs', rfl, h1, h2, h3⟩ := h
    simp only [List.set_cons_zero, RelDs]
    exact ⟨x, xs', rfl, h1, hd x (by simp), h3⟩
  | c :: cs, xs, k + 1, d, h, hd => by
    simp only [RelDs] at h
    obtain ⟨x, xs', rfl, h1, h2, h3⟩ := h
    simp only [List.set_cons_succ, RelDs]
    exact ⟨x, xs', rfl, h1, h2, relDs_set cs xs' k d h3 fun y hy => hd y (by simpa using hy)⟩
theorem relDs_get {w : World} {W : Nat → Prop} {objs : Obs} {L : Loc} : ∀ (cs : List DV) (xs : List Value) (k : Nat) (d : DV) (x : Value), RelDs w W objs L cs xs → cs[k]? = some d → xs[k]? = some x → RelD w W objs L d x
  | [], xs, k, d, x, h, hk, _ => by simp at hk
  | c :: cs, xs, 0, d, x, h, hk, hx => by
    simp only [RelDs] at h
    obtain ⟨y, xs', rfl, h1, h2, h3⟩ := h
    simp only [List.getElem?_cons_zero, Option.some.injEq] at hk hx
    subst hk hx; exact h2
  | c :: cs, xs, k + 1, d, x, h, hk, hx => by
    simp only [RelDs] at h
    obtain ⟨y, xs', rfl, h1, h2, h3⟩ := h
    simp only [List.getElem?_cons_succ] at hk hx
    exact relDs_get cs xs' k d x h3 hk hx
theorem relDs_some {w : World} {W : Nat → Prop} {objs : Obs} {L : Loc} : ∀ (cs : List DV) (xs : List Value) (k : Nat) (d : DV), RelDs w W objs L cs xs → cs[k]? = some d → ∃ x, xs[k]? = some x
  | [], xs, k, d, h, hk => by simp at hk
  | c :: cs, xs, 0, d, h, hk => by
    simp only [RelDs] at h
    obtain ⟨y, xs', rfl, h1, h2, h3⟩ := h
    exact ⟨y, by simp⟩
  | c :: cs, xs, k + 1, d, h, hk => by
    simp only [RelDs] at h
    obtain ⟨y, xs', rfl, h1, h2, h3⟩ := h
    simp only [List.getElem?_cons_succ] at hk
    obtain ⟨x, hx⟩ := relDs_some cs xs' k d h3 hk
    exact ⟨x, by simpa using hx⟩

/-- A cell of a box that holds nil is told as an array without rows. -/
theorem Le.nilCell {tm : Nat → DV} {ob : Obs} {nxt low : Nat} {td : List (List T)} (r : Nat) (k : Nat) {cs : List DV} (e : Nat) {sz : Nat} (hsz : 0 < sz) (hr : ob r = some (.box cs)) (hk : cs[k]? = some .nil0) :
    Le ⟨tm, ob, nxt, low, td⟩ ⟨tm, setO (setO ob nxt (.arr 0 e sz [])) r (.box (cs.set k (.aref nxt 0))), nxt + 1, low, td⟩ := by
  intro κ nt a w L h
  have hq : ob nxt = none := h.fresh nxt (Nat.le_refl _)
  have hrq : r ≠ nxt := fun e => by rw [e, hq] at hr; cases hr
  have hrlt : r < nxt := Nat.lt_of_not_le fun hle => by have := h.fresh r hle; simp only at this; rw [this] at hr; cases hr
  obtain ⟨W, base, M, w0, hat, h0⟩ := h.r.ex
  have hO := h0.o
  obtain ⟨c, f, hcc, hrel, hm⟩ := hO.ob r _ hr
  obtain ⟨x, hx⟩ := relDs_some _ _ _ _ hrel hk
  have hxr := relDs_get _ _ _ _ _ hrel hk hx
  simp only [RelD] at hxr
  obtain ⟨ad, hxa⟩ := hxr
  have hA := nil_adv (W := W) (w := w) (L := L) (a := ad) (e := e) (sz := sz) hq
  have hO1 := nil_relO (a := ad) (e := e) hO hsz hq
  obtain ⟨o1, ho1⟩ : ∃ o1, setO ob nxt (.arr 0 e sz []) = o1 := ⟨_, rfl⟩
  obtain ⟨L1, hL1⟩ : ∃ L1, L.at nxt (.slice ad 0 0) = L1 := ⟨_, rfl⟩
  have hr1 : o1 r = some (.box cs) := by rw [← ho1]; exact setO_of hrq hr
  rw [ho1, hL1] at hA hO1
  have hww : ∀ {V : Nat → Prop} b, WW V (setO o1 r (.box (cs.set k (.aref nxt 0)))) L1 b → WW V o1 L1 b := by
    intro V b hb
    rcases hb with hb | ⟨r', o, hr', hb⟩
    · exact .inl hb
    · rcases setO_cases hr' with ⟨rfl, rfl⟩ | ⟨_, hr'⟩
      · exact .inr ⟨r', _, hr1, hb⟩
      · exact .inr ⟨r', o, hr', hb⟩
  have hA2 : Adv W o1 L1 w (setO o1 r (.box (cs.set k (.aref nxt 0)))) L1 w := by
    refine ⟨Keeps.refl _ _, fun b _ h => hww b h, fun r' cs' hr' => ?_, fun r' ver e' sz' rows hr' => ?_, rfl⟩
    · by_cases he : r' = r
      · subst he; exact ⟨rfl, _, by simp [setO]; rfl⟩
      · exact ⟨rfl, cs', setO_of he hr'⟩
    · have he : r' ≠ r := fun he => by rw [he, hr1] at hr'; cases hr'
      exact ⟨ver, e', sz', rows, setO_of he hr', Nat.le_refl _, fun _ => ⟨rfl, rfl, rfl⟩⟩
  have hO2 : RelO base W M w0 (setO o1 r (.box (cs.set k (.aref nxt 0)))) w L1 := by
    refine ⟨hO1.fr, fun r' o hr' => ?_, fun p p' o o' b hne h1 h2 hb => ?_, fun p o b hp hb => ?_, hO1.under⟩
    · rcases setO_cases hr' with ⟨rfl, rfl⟩ | ⟨hne, hr'⟩
      · refine ⟨c, f, by rw [← hL1]; exact hcc, relDs_set _ _ _ _ (RelDs.adv hA2 _ _ (RelDs.adv hA _ _ hrel)) fun y hy => ?_, by rw [← hL1]; exact hm⟩
        rw [hx] at hy
        cases hy
        simp only [RelD]
        refine ⟨⟨ad, 0, 0, hxa⟩, 0, e, sz, [], setO_of (Ne.symm hrq) (by rw [← ho1]; simp), Nat.le_refl _, fun _ => ?_⟩
        rw [hxa, ← hL1]; simp [Loc.at]
      · have hk' := hO1.ob r' o hr'
        cases o with
        | box cs' =>
          obtain ⟨c', f', hcc', hrel', hm'⟩ := hk'
          exact ⟨c', f', hcc', RelDs.adv hA2 cs' _ hrel', hm'⟩
        | arr ver e' sz' rows =>
          obtain ⟨g1, g2, g3, g4⟩ := hk'
          refine ⟨g1, g2, g3, ?_⟩
          rcases g4 with g4 | ⟨g, cap, cur, hv, hp, hh, k1, k2, k3, k4⟩
          · exact .inl g4
          · exact .inr ⟨g, cap, cur, hv, hp, hh, k1, k2, k3, RelL.keep (Keeps.refl (WW W o1 L1) w).toKeepsC (fun b _ hb => hww b hb) _ _ k4⟩
    · have key : ∀ {p o}, setO o1 r (.box (cs.set k (.aref nxt 0))) p = some o → ∃ o2, o1 p = some o2 ∧ L1.own p o = L1.own p o2 := by
        intro p o hp
        rcases setO_cases hp with ⟨rfl, rfl⟩ | ⟨_, hp⟩
        · exact ⟨_, hr1, rfl⟩
        · exact ⟨o, hp, rfl⟩
      obtain ⟨x1, y1, z1⟩ := key h1
      obtain ⟨x2, y2, z2⟩ := key h2
      rw [z1] at hb
      rw [z2]
      exact hO1.apart p p' x1 x2 b hne y1 y2 hb
    · rcases setO_cases hp with ⟨rfl, rfl⟩ | ⟨_, hp⟩
      · exact hO1.outer p _ b hr1 hb
      · exact hO1.outer p o b hp hb
  have hsub := hat.sub
  have hfr : ∀ r', nxt + 1 ≤ r' → setO o1 r (.box (cs.set k (.aref nxt 0))) r' = none := fun r' hr' => by
    rw [← ho1]; simp only [setO]; rw [if_neg (by omega), if_neg (by omega)]; exact h.fresh r' (by simp only; omega)
  rw [ho1]
  exact ⟨L1, ⟨⟨W, base, M, w0, hat, h0.size, fun t => RelD.adv hA2 _ _ (RelD.adv hA _ _ (h0.tmps t)), hO2⟩, Adv.comp (Adv.comp h.r.adv hA hsub.1 hsub.2) hA2 hsub.1 hsub.2, h.r.defers, h.r.bg, ⟨_, hfr⟩⟩, hfr, h.low, h.it⟩

theorem setO_obs (l : List (Nat × Ob)) (r : Nat) (o : Ob) : setO (obs l) r o = obs ((r, o) :: l) := by funext k; rfl
@[simp] theorem look_nil_fun : look [] = fun _ => DV.undef := by funext k; rfl
def sameVerO : Option Ob → Option Ob → Prop
  | some a, some b => sameVer a b
  | _, _ => False
/-- What was there before is kept. -/
def keptLow (low : Nat) (o0 o : Obs) : List (Nat × Ob) → Prop
  | [] => True
  | (r, _) :: l => (r < low → sameVerO (o0 r) (o r)) ∧ keptLow low o0 o l
theorem keptLow_mem {low : Nat} {o0 o : Obs} : ∀ {l : List (Nat × Ob)}, keptLow low o0 o l → ∀ r x, (r, x) ∈ l → r < low → sameVerO (o0 r) (o r)
  | [], _, _, _, h => by cases h
  | (r, x) :: l, h, r', x', hm => by
    rcases List.mem_cons.1 hm with e | hm
    · cases e; exact h.1
    · exact keptLow_mem h.2 r' x' hm
/-- A state told anew, the names kept; what is older than the frame stays in its version. -/
theorem Le.keepLow {tm : Nat → DV} {o0 o : List (Nat × Ob)} {l : List (Nat × DV)} {nxt nxt' : Nat} {td : List (List T)} {low : Nat} (hk0 : keptLow low (obs o0) (obs o) o0) (hk : keysBelow nxt' o)
    (hob : corObs (obs o0) (obs o) id o) (htm : corTms (obs o0) (obs o) id tm l) : Le ⟨tm, obs o0, nxt, low, td⟩ ⟨look l, obs o, nxt', low, td⟩ := by
  refine Le.cor id rfl rfl (fun r hr => ?_) (fun r' o' h => corObs_mem hob r' o' (obs_mem h)) (fun r1 r2 h1 h2 e => e) (fun r hr o' h => ?_) (fun k => look_cor l htm k)
  · cases ho : obs o r with
    | none => exact ho
    | some x => have := keysBelow_mem hk r x (obs_mem ho); simp only at hr; omega
  · have := keptLow_mem hk0 r o' (obs_mem h) hr
    simp only at h ⊢
    rw [h] at this
    refine ⟨rfl, ?_⟩
    cases ho : obs o r with
    | none => rw [ho] at this; exact this.elim
    | some x => rw [ho] at this; exact ⟨x, rfl, this⟩
attribute [simp] keptLow sameVerO sameVer

@[simp] theorem gone_cons {σ : Nat → Nat} {r j : Nat} {o : Ob} {l : List (Nat × Ob)} : gone (obs ((j, o) :: l)) σ r ↔ σ j ≠ r ∧ gone (obs l) σ r := by
  refine ⟨fun h => ⟨h j (by simp), fun r' hr' => h r' (by simp only [obs_cons]; split <;> simp [hr'])⟩, fun h => gone_obs h.1 h.2⟩
@[simp] theorem gone_nil {σ : Nat → Nat} {r : Nat} : gone (obs []) σ r := fun r' h => absurd rfl h
end Go.DM
