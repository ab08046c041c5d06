/- The cells of a span are good, if those within are. Conditions: none. -/
import Derived.Test.YtljcdomdjgolkaaGreatDoorXaj
namespace Go.Proofs
namespace Inc
open Go.DM
set_option linter.unusedSimpArgs false
set_option linter.unusedVariables false

theorem rule_get {n : Normal} (hn : nOk n) {k : Nat} {r : Rule} (h : n.rules[k]? = some r) : ruleOk n r ∧ k < n.rules.length ∧ n.rules.getD k default = r := by
  have hk := (List.getElem?_eq_some_iff.1 h).1
  exact ⟨hn.2.2.2 r (List.mem_of_getElem? h), hk, by simp [List.getD, h]⟩
theorem rule_kind {n : Normal} {r : Rule} (h : ruleOk n r) : r.kind = 1 ∨ r.kind = 2 ∨ r.kind = 3 ∨ r.kind = 4 := by
  obtain ⟨_, _, _, _, h⟩ := h
  omega

section
variable {n : Normal} {l : Lattice} {c : Chart} {s t : Nat}
structure Ctx2 (n : Normal) (l : Lattice) (c : Chart) (s t : Nat) : Prop where
  hn : nOk n
  hl : lOk l
  hc : cOk c
  ar : ∀ a ∈ l.arcs, a.f ≤ a.t
  st : s ≤ t
  tm : t ≤ 1000
  inn : ∀ (h : Int) (s' t' : Nat), 0 ≤ h → h < n.nonterms → s ≤ s' → s' ≤ t' → t' ≤ t → (s' ≠ s ∨ t' ≠ t) → Good n l h s' t' (atI c h s' t')

def PS (n : Normal) (l : Lattice) (c : Chart) (s t : Nat) (own : List Cell) : Prop :=
  ∀ h : Nat, h < own.length → own.getD h default = none4 ∨ (Der n l h s t (own.getD h default).val ∧
    ∃ (k : Nat) (g : Int) (v : Val), InstR n l c own s t k g v ∧ (∃ r, n.rules[k]? = some r ∧ r.head = h) ∧ (own.getD h default).rule = k ∧ (own.getD h default).arg = g ∧ ¬ (own.getD h default).val.lt v)

theorem val_range (C : Ctx2 n l c s t) {own : List Cell} (ho : ownC n own) {h : Int} (h0 : 0 ≤ h) (h1 : h < n.nonterms) (f t' : Int) : okV (valueV c own s t h f t') :=
  valueV_ok ⟨C.hc, by have := ho.1; have := C.hn.2.1; omega, fun _ => ⟨h0, by have := ho.1; omega⟩⟩ ho.ok.2
theorem value_der (C : Ctx2 n l c s t) {own : List Cell} (ho : ownC n own) (hp : PS n l c s t own) {h : Int} {s' t' : Nat} (h0 : 0 ≤ h) (h1 : h < n.nonterms) (a1 : s ≤ s') (a2 : s' ≤ t') (a3 : t' ≤ t)
    (hf : (valueV c own s t h s' t').cost < 1099511627776) : Der n l h s' t' (valueV c own s t h s' t') := by
  obtain ⟨h, rfl⟩ := Int.eq_ofNat_of_zero_le h0
  unfold valueV at hf ⊢
  split
  · rename_i e
    rw [if_pos e] at hf
    have e1 : s' = s := by omega
    have e2 : t' = t := by omega
    subst e1 e2
    simp only [Int.toNat_natCast] at hf ⊢
    rcases hp h (by have := ho.1; omega) with e | ⟨d, _⟩
    · rw [e] at hf; exact absurd hf (by decide)
    · exact d
  · rename_i e
    rw [if_neg e] at hf
    rcases (C.inn h s' t' h0 h1 a1 a2 a3 (by omega)).top with e | ⟨⟨k, _, d⟩, _⟩
    · rw [e] at hf; exact absurd hf (by decide)
    · exact ⟨k, _, d⟩
theorem inst_der (C : Ctx2 n l c s t) {own : List Cell} (ho : ownC n own) (hp : PS n l c s t own) {k : Nat} {g : Int} {v : Val} {r : Rule} (hk : n.rules[k]? = some r) (h : InstR n l c own s t k g v) (hf : v.cost < 1099511627776) : DerT n l r.head s t k g v := by
  obtain ⟨r', hk', h⟩ := h
  rw [hk] at hk'
  cases hk'
  obtain ⟨q1, q2, q3, q4, q5⟩ := (rule_get C.hn hk).1
  rcases h with ⟨h1, rfl, rfl, rfl⟩ | ⟨h1, a, x, ha, h2, h3, h4, rfl, rfl⟩ | ⟨h1, rfl, rfl⟩ | ⟨h1, d, hd, rfl, rfl⟩
  · exact DerT.empty hk h1 hf
  · exact DerT.term hk h1 ha h2 h3 h4 hf
  · obtain ⟨k1, g1, d1⟩ := value_der C ho hp (h := r.a) (by omega) (by omega) (Nat.le_refl s) C.st (Nat.le_refl t) (comb1_fin q3 hf)
    exact DerT.unary hk h1 d1 hf
  · have o1 := val_range C ho (h := r.a) (by omega) (by omega) s (s + d)
    have o2 := val_range C ho (h := r.b) (by omega) (by omega) (s + d) t
    have hff := comb2_fin q3 o1.1 o2.1 hf
    have e : ((s : Int) + d) = ((s + d : Nat) : Int) := by omega
    rw [e] at hf hff ⊢
    obtain ⟨k1, g1, d1⟩ := value_der C ho hp (h := r.a) (by omega) (by omega) (Nat.le_refl s) (by omega) hd hff.1
    obtain ⟨k2, g2, d2⟩ := value_der C ho hp (h := r.b) (by omega) (by omega) (by omega) hd (Nat.le_refl t) hff.2
    exact DerT.binary hk h1 (by omega) hd d1 d2 hf
theorem inst_mono (C : Ctx2 n l c s t) {own own' : List Cell} (ho : ownC n own) (ho' : ownC n own') (hm : ∀ (h f t' : Int), 0 ≤ h → h < n.nonterms → ¬ (valueV c own s t h f t').lt (valueV c own' s t h f t')) {k : Nat} {g : Int} {v : Val} (h : InstR n l c own s t k g v) :
    ∃ v', InstR n l c own' s t k g v' ∧ ¬ v.lt v' := by
  obtain ⟨r, hk, h⟩ := h
  obtain ⟨q1, q2, q3, q4, q5⟩ := (rule_get C.hn hk).1
  rcases h with ⟨h1, rfl, rfl, rfl⟩ | ⟨h1, a, x, ha, h2, h3, h4, rfl, rfl⟩ | ⟨h1, rfl, rfl⟩ | ⟨h1, d, hd, rfl, rfl⟩
  · exact ⟨_, ⟨r, hk, .inl ⟨h1, rfl, rfl, rfl⟩⟩, by unfold Val.lt; omega⟩
  · exact ⟨_, ⟨r, hk, .inr (.inl ⟨h1, a, x, ha, h2, h3, h4, rfl, rfl⟩)⟩, by unfold Val.lt; omega⟩
  · exact ⟨_, ⟨r, hk, .inr (.inr (.inl ⟨h1, rfl, rfl⟩))⟩, comb1_mono (hm _ _ _ (by omega) (by omega))⟩
  · refine ⟨_, ⟨r, hk, .inr (.inr (.inr ⟨h1, d, hd, rfl, rfl⟩))⟩, comb2_mono ?_ ?_ ?_ ?_ (hm _ _ _ (by omega) (by omega)) (hm _ _ _ (by omega) (by omega))⟩
    · exact (val_range C ho (by omega) (by omega) _ _).1
    · exact (val_range C ho' (by omega) (by omega) _ _).1
    · exact (val_range C ho (by omega) (by omega) _ _).1
    · exact (val_range C ho' (by omega) (by omega) _ _).1
theorem getD_set {own : List Cell} {i h : Nat} {y : Cell} (hi : i < own.length) : (own.set i y).getD h default = if h = i then y else own.getD h default := by
  simp only [List.getD, List.getElem?_set]
  by_cases e : i = h
  · subst e; simp [hi]
  · have e' : ¬ h = i := fun x => e x.symm
    simp [e, e']
theorem PS_step (C : Ctx2 n l c s t) {own : List Cell} {k : Nat} (ho : ownC n own) (hk : k < n.rules.length) (hp : PS n l c s t own) : PS n l c s t (stepS n l c s t own k) := by
  have ho' := (stepS_ok C.hn C.hl C.hc ho hk C.st C.tm).1
  have hr : n.rules[k]? = some (n.rules.getD k default) := by simp [List.getD, hk]
  obtain ⟨r, er⟩ : ∃ r, n.rules.getD k default = r := ⟨_, rfl⟩
  unfold stepS at ho' ⊢
  unfold improveC at ho' ⊢
  rw [er] at hr ho' ⊢
  have hro := (rule_get C.hn hr).1
  obtain ⟨hd, ehd⟩ := Int.eq_ofNat_of_zero_le hro.1
  have hdl : hd < own.length := by have := ho.1; have := hro.2.1; omega
  rw [ehd] at ho' ⊢
  simp only [Int.toNat_natCast] at ho' ⊢
  obtain ⟨x, hx⟩ : ∃ x, own.getD hd default = x := ⟨_, rfl⟩
  rw [hx] at ho' ⊢
  rcases improve_inst (c := c) (own := own) hr (rule_kind hro) C.st x with e | ⟨g, v, hi, hf, hle, e⟩
  · rw [e, ← hx, set_self rfl]; exact hp
  · rw [e] at ho' ⊢
    have hm : ∀ (h f t' : Int), 0 ≤ h → h < n.nonterms → ¬ (valueV c own s t h f t').lt (valueV c (own.set hd ⟨v.cost, v.size, k, g⟩) s t h f t') := by
      intro h f t' h0 h1
      unfold valueV
      split
      · rw [getD_set hdl]
        split
        · rename_i e2; rw [e2, hx]; exact hle
        · unfold Val.lt; omega
      · unfold Val.lt; omega
    have hder := inst_der C ho hp hr hi hf
    intro h hh
    rw [getD_set hdl]
    split
    · rename_i e2
      subst e2
      obtain ⟨v', hi', hle'⟩ := inst_mono C ho ho' hm hi
      exact .inr ⟨⟨k, g, by rw [← ehd]; exact hder⟩, k, g, v', hi', ⟨r, hr, ehd⟩, rfl, rfl, hle'⟩
    · rcases hp h (by simpa using hh) with e3 | ⟨d, k1, g1, v1, hi1, hr1, h2, h3, h4⟩
      · exact .inl e3
      · obtain ⟨v', hi', hle'⟩ := inst_mono C ho ho' hm hi1
        exact .inr ⟨d, k1, g1, v', hi', hr1, h2, h3, lt_trans_le hle' h4⟩
theorem PS_zero (C : Ctx2 n l c s t) : PS n l c s t (own0 n) := by
  intro h hh
  left
  have hh : h < n.nonterms.toNat := by simpa [own0] using hh
  simp [own0, List.getD, hh]

/-- At the end no instance is better than what is there. -/
theorem fix_inst (C : Ctx2 n l c s t) {own : List Cell} (ho : ownC n own) (hfix : fixP n l c s t own) {k : Nat} {g : Int} {v : Val} {r : Rule} (hk : n.rules[k]? = some r) (h : InstR n l c own s t k g v) (hf : v.cost < 1099511627776) :
    ¬ v.lt (own.getD r.head.toNat default).val ∧ (v = (own.getD r.head.toNat default).val → lexLe (own.getD r.head.toNat default).rule (own.getD r.head.toNat default).arg k g) := by
  obtain ⟨r', hk', h⟩ := h
  rw [hk] at hk'
  cases hk'
  obtain ⟨hro, hkl, hkd⟩ := rule_get C.hn hk
  have hfx := hfix k hkl
  unfold improveC at hfx
  rw [hkd] at hfx
  obtain ⟨q1, q2, q3, q4, q5⟩ := hro
  have hcx : cellOk (own.getD r.head.toNat default) := ho.2 _ (getD_mem (by have := ho.1; omega))
  obtain ⟨x, hx⟩ : ∃ x, own.getD r.head.toNat default = x := ⟨_, rfl⟩
  rw [hx] at hfx hcx ⊢
  have hk6 := C.hn.2.2.1
  have hl1 := C.hl.2.2.1
  have hst := C.st
  have htm := C.tm
  unfold improveR at hfx
  rcases h with ⟨h1, rfl, rfl, rfl⟩ | ⟨h1, a, y, ha, h2, h3, h4, rfl, rfl⟩ | ⟨h1, rfl, rfl⟩ | ⟨h1, d, hd, rfl, rfl⟩
  · rw [if_pos h1, if_pos rfl] at hfx
    exact better_fix hfx hf
  · rw [if_neg (by omega), if_pos h1] at hfx
    have hal := (List.getElem?_eq_some_iff.1 ha).1
    have had : l.arcs.getD a default = y := by simp [List.getD, ha]
    have := fold_fix (fun x k hk hx => by
      unfold stepT
      split
      · have := C.hl.2.2.2 (l.arcs.getD k default) (getD_mem hk)
        exact goes_better hx (comb_ok okV_nil (by omega) (by omega)) (by omega) (by omega) (by omega) (by omega)
      · exact goes_refl hx) x hcx hfx a hal
    unfold stepT at this
    rw [had, if_pos ⟨h2, h3, h4⟩] at this
    exact better_fix this hf
  · rw [if_neg (by omega), if_neg (by omega), if_pos h1] at hfx
    exact better_fix hfx hf
  · rw [if_neg (by omega), if_neg (by omega), if_neg (by omega)] at hfx
    have := fold_fix (fun x k hk hx => by
      unfold stepB
      refine goes_better hx (comb_ok (fun v hv => ?_) q3 (by omega)) (by omega) (by omega) (by omega) (by omega)
      simp only [List.mem_cons, List.not_mem_nil, or_false] at hv
      rcases hv with rfl | rfl <;> exact val_range C ho (by omega) (by omega) _ _) x hcx hfx d (by omega)
    unfold stepB at this
    exact better_fix this hf

theorem DerT.le (ha : ∀ a ∈ l.arcs, a.f ≤ a.t) {h : Int} {s' t' k : Nat} {g : Int} {v : Val} (d : DerT n l h s' t' k g v) : s' ≤ t' := by
  induction d with
  | empty _ _ _ => exact Nat.le_refl _
  | term _ _ hx h2 h3 _ _ => have := ha _ (List.mem_of_getElem? hx); omega
  | unary _ _ _ _ ih => exact ih
  | binary _ _ _ _ _ _ _ ih1 ih2 => omega
theorem DerT.head (hn : nOk n) {h : Int} {s' t' k : Nat} {g : Int} {v : Val} (d : DerT n l h s' t' k g v) : 0 ≤ h ∧ h < n.nonterms := by
  cases d with
  | empty hk _ _ => exact ⟨(rule_get hn hk).1.1, (rule_get hn hk).1.2.1⟩
  | term hk _ _ _ _ _ _ => exact ⟨(rule_get hn hk).1.1, (rule_get hn hk).1.2.1⟩
  | unary hk _ _ _ => exact ⟨(rule_get hn hk).1.1, (rule_get hn hk).1.2.1⟩
  | binary hk _ _ _ _ _ _ => exact ⟨(rule_get hn hk).1.1, (rule_get hn hk).1.2.1⟩
theorem DerT.pos (hn : nOk n) (hl : lOk l) {h : Int} {s' t' k : Nat} {g : Int} {v : Val} (d : DerT n l h s' t' k g v) : okV v := by
  induction d with
  | empty hk _ _ => exact comb_ok okV_nil (rule_get hn hk).1.2.2.1 (by have := (rule_get hn hk).1.2.2.2.1; omega)
  | term hk _ hx _ _ _ _ => exact comb_ok okV_nil (by have := (rule_get hn hk).1.2.2.1; have := hl.2.2.2 _ (List.mem_of_getElem? hx); omega) (by have := (rule_get hn hk).1.2.2.2.1; have := hl.2.2.2 _ (List.mem_of_getElem? hx); omega)
  | unary hk _ _ _ ih => exact comb_ok (fun v hv => by simp only [List.mem_singleton] at hv; subst hv; exact ih) (rule_get hn hk).1.2.2.1 (by have := (rule_get hn hk).1.2.2.2.1; omega)
  | binary hk _ _ _ _ _ _ ih1 ih2 => exact comb_ok (fun v hv => by simp only [List.mem_cons, List.not_mem_nil, or_false] at hv; rcases hv with rfl | rfl <;> assumption) (rule_get hn hk).1.2.2.1 (by have := (rule_get hn hk).1.2.2.2.1; omega)
theorem value_le (C : Ctx2 n l c s t) {own : List Cell} (ho : ownC n own) (hfix : fixP n l c s t own) {h : Int} {s' t' k : Nat} {g : Int} {v : Val} (d : DerT n l h s' t' k g v) :
    s ≤ s' → t' ≤ t → ¬ v.lt (valueV c own s t h s' t') := by
  -- outside the span the chart's cells are good; on it every derivation is an instance
  have out : ∀ {h : Int} {s' t' : Nat} {v : Val}, 0 ≤ h → h < n.nonterms → s ≤ s' → s' ≤ t' → t' ≤ t → (s' ≠ s ∨ t' ≠ t) → Der n l h s' t' v → ¬ v.lt (valueV c own s t h s' t') := by
    intro h s' t' v h0 h1 a1 a2 a3 hne d
    unfold valueV
    rw [if_neg (by omega)]
    exact (C.inn h s' t' h0 h1 a1 a2 a3 hne).least v d
  have onn : ∀ {r : Rule} {k : Nat} {g : Int} {v v' : Val}, n.rules[k]? = some r → InstR n l c own s t k g v' → ¬ v.lt v' → v.cost < 1099511627776 → ¬ v.lt (valueV c own s t r.head s t) := by
    intro r k g v v' hk hi hle hf
    unfold valueV
    rw [if_pos ⟨rfl, rfl⟩]
    have hf' : v'.cost < 1099511627776 := by unfold Val.lt at hle; omega
    exact lt_trans_le (fix_inst C ho hfix hk hi hf').1 hle
  induction d with
  | @empty s0 k r hk h1 hv =>
    intro a1 a2
    obtain ⟨q1, q2, q3, q4, q5⟩ := (rule_get C.hn hk).1
    by_cases e : s0 = s ∧ s0 = t
    · obtain ⟨rfl, rfl⟩ := e
      exact onn hk ⟨r, hk, .inl ⟨h1, rfl, rfl, rfl⟩⟩ (by unfold Val.lt; omega) hv
    · exact out q1 q2 a1 (Nat.le_refl _) a2 (by omega) ⟨k, _, DerT.empty hk h1 hv⟩
  | @term s0 t0 k a r x hk h1 ha h2 h3 h4 hv =>
    intro a1 a2
    obtain ⟨q1, q2, q3, q4, q5⟩ := (rule_get C.hn hk).1
    by_cases e : s0 = s ∧ t0 = t
    · obtain ⟨rfl, rfl⟩ := e
      exact onn hk ⟨r, hk, .inr (.inl ⟨h1, a, x, ha, h2, h3, h4, rfl, rfl⟩)⟩ (by unfold Val.lt; omega) hv
    · exact out q1 q2 a1 (by have := C.ar x (List.mem_of_getElem? ha); omega) a2 (by omega) ⟨k, _, DerT.term hk h1 ha h2 h3 h4 hv⟩
  | @unary s0 t0 k k1 g1 r v hk h1 d hv ih =>
    intro a1 a2
    obtain ⟨q1, q2, q3, q4, q5⟩ := (rule_get C.hn hk).1
    by_cases e : s0 = s ∧ t0 = t
    · obtain ⟨rfl, rfl⟩ := e
      exact onn hk ⟨r, hk, .inr (.inr (.inl ⟨h1, rfl, rfl⟩))⟩ (comb1_mono (ih (Nat.le_refl _) (Nat.le_refl _))) hv
    · exact out q1 q2 a1 (d.le C.ar) a2 (by omega) ⟨k, _, DerT.unary hk h1 d hv⟩
  | @binary s0 m t0 k k1 k2 g1 g2 r v w hk h1 hs ht d1 d2 hv ih1 ih2 =>
    intro a1 a2
    obtain ⟨q1, q2, q3, q4, q5⟩ := (rule_get C.hn hk).1
    by_cases e : s0 = s ∧ t0 = t
    · obtain ⟨rfl, rfl⟩ := e
      have em : (m : Int) = (s0 : Int) + ((m - s0 : Nat) : Int) := by omega
      refine onn hk ⟨r, hk, .inr (.inr (.inr ⟨h1, m - s0, by omega, rfl, rfl⟩))⟩ (comb2_mono ?_ ?_ ?_ ?_ ?_ ?_) hv
      · exact (d1.pos C.hn C.hl).1
      · exact (val_range C ho (by omega) (by omega) _ _).1
      · exact (d2.pos C.hn C.hl).1
      · exact (val_range C ho (by omega) (by omega) _ _).1
      · rw [← em]; exact ih1 (Nat.le_refl _) ht
      · rw [← em]; exact ih2 hs (Nat.le_refl _)
    · exact out q1 q2 a1 (by omega) a2 (by omega) ⟨k, _, DerT.binary hk h1 hs ht d1 d2 hv⟩

/-- A derivation over the span is an instance, whose value with what is there is not greater. -/
theorem der_inst (C : Ctx2 n l c s t) {own : List Cell} (ho : ownC n own) (hfix : fixP n l c s t own) {h : Int} {k : Nat} {g : Int} {v : Val} (d : DerT n l h s t k g v) :
    ∃ r v', n.rules[k]? = some r ∧ r.head = h ∧ InstR n l c own s t k g v' ∧ ¬ v.lt v' := by
  have hle := fun {h : Int} {s' t' k : Nat} {g : Int} {v : Val} (d : DerT n l h s' t' k g v) => value_le C ho hfix d
  cases d with
  | @empty s0 k r hk h1 hv => exact ⟨r, _, hk, rfl, ⟨r, hk, .inl ⟨h1, rfl, rfl, rfl⟩⟩, by unfold Val.lt; omega⟩
  | @term s0 t0 k a r x hk h1 ha h2 h3 h4 hv => exact ⟨r, _, hk, rfl, ⟨r, hk, .inr (.inl ⟨h1, a, x, ha, h2, h3, h4, rfl, rfl⟩)⟩, by unfold Val.lt; omega⟩
  | @unary s0 t0 k k1 g1 r v hk h1 d hv =>
    exact ⟨r, _, hk, rfl, ⟨r, hk, .inr (.inr (.inl ⟨h1, rfl, rfl⟩))⟩, comb1_mono (hle d (Nat.le_refl _) (Nat.le_refl _))⟩
  | @binary s0 m t0 k k1 k2 g1 g2 r v w hk h1 hs ht d1 d2 hv =>
    obtain ⟨q1, q2, q3, q4, q5⟩ := (rule_get C.hn hk).1
    have em : (m : Int) = (s : Int) + ((m - s : Nat) : Int) := by omega
    refine ⟨r, _, hk, rfl, ⟨r, hk, .inr (.inr (.inr ⟨h1, m - s, by omega, em, rfl⟩))⟩, comb2_mono ?_ ?_ ?_ ?_ ?_ ?_⟩
    · exact (d1.pos C.hn C.hl).1
    · exact (val_range C ho (by omega) (by omega) _ _).1
    · exact (d2.pos C.hn C.hl).1
    · exact (val_range C ho (by omega) (by omega) _ _).1
    · rw [← em]; exact hle d1 (Nat.le_refl _) ht
    · rw [← em]; exact hle d2 hs (Nat.le_refl _)
/-- The cells of a span that stands still are good. -/
theorem fix_good (C : Ctx2 n l c s t) {own : List Cell} (ho : ownC n own) (hp : PS n l c s t own) (hfix : fixP n l c s t own) (h : Nat) (hh : (h : Int) < n.nonterms) : Good n l h s t (own.getD h default) := by
  have hl : h < own.length := by have := ho.1; omega
  have hval : valueV c own s t h s t = (own.getD h default).val := by unfold valueV; rw [if_pos ⟨rfl, rfl⟩]; rfl
  refine ⟨fun v ⟨k, g, d⟩ => ?_, ?_⟩
  · rw [← hval]; exact value_le C ho hfix d (Nat.le_refl _) (Nat.le_refl _)
  · rcases hp h hl with e | ⟨hd, k, g, v, hi, ⟨r, hk, hr⟩, h2, h3, hle⟩
    · exact .inl e
    · right
      have hf := hd.fin
      have hvf : v.cost < 1099511627776 := by unfold Val.lt at hle; omega
      have hx := fix_inst C ho hfix hk hi hvf
      rw [hr] at hx
      simp only [Int.toNat_natCast] at hx
      have he : v = (own.getD h default).val := Val.antisymm hx.1 hle
      refine ⟨⟨k, h2, ?_⟩, fun k' g' d => ?_⟩
      · have := inst_der C ho hp hk hi hvf
        rw [hr, he] at this
        rw [h3]; exact this
      · obtain ⟨r', v', hk', hr', hi', hle'⟩ := der_inst C ho hfix d
        have hvf' : v'.cost < 1099511627776 := by unfold Val.lt at hle'; omega
        have hx' := fix_inst C ho hfix hk' hi' hvf'
        rw [hr'] at hx'
        simp only [Int.toNat_natCast] at hx'
        exact hx'.2 (Val.antisymm hx'.1 hle')
theorem span_good (C : Ctx2 n l c s t) (h : Nat) (hh : (h : Int) < n.nonterms) : Good n l h s t ((spanF n l c s t).getD h default) := by
  obtain ⟨h1, h2, h3⟩ := spanF_ok C.hn C.hl C.hc C.st C.tm (PS n l c s t) (PS_zero C) (fun own k ho hk hp => PS_step C ho hk hp)
  exact fix_good C h1 h2 h3 h hh
end
end Inc
end Go.Proofs
/- The cells of the reference chart are good. Conditions: none. -/
namespace Go.Proofs
namespace Inc
open Go.DM
set_option linter.unusedSimpArgs false
set_option linter.unusedVariables false

theorem mul_add_inj {p p' nn h h' : Int} (a1 : 0 ≤ h) (a2 : h < nn) (b1 : 0 ≤ h') (b2 : h' < nn) (e : p * nn + h = p' * nn + h') : p = p' ∧ h = h' := by
  have key : ∀ {p p' h h' : Int}, 0 ≤ h → h < nn → 0 ≤ h' → h' < nn → p * nn + h = p' * nn + h' → ¬ p < p' := by
    intro p p' h h' a1 a2 b1 b2 e hlt
    have h1 : (p + 1) * nn ≤ p' * nn := Int.mul_le_mul_of_nonneg_right (by omega) (by omega)
    have h2 : (p + 1) * nn = p * nn + nn := by grind
    omega
  have h1 := key a1 a2 b1 b2 e
  have h2 := key b1 b2 a1 a2 e.symm
  have : p = p' := by omega
  subst this
  exact ⟨rfl, by omega⟩
theorem index_inj {nn st : Int} {s t s' t' : Nat} {h h' : Int} (a1 : 0 ≤ h) (a2 : h < nn) (b1 : 0 ≤ h') (b2 : h' < nn) (c1 : s ≤ t) (c2 : (t : Int) < st) (d1 : s' ≤ t') (d2 : (t' : Int) < st)
    (e : indexI nn st s t + h = indexI nn st s' t' + h') : s = s' ∧ t = t' ∧ h = h' := by
  unfold indexI at e
  obtain ⟨e1, e2⟩ := mul_add_inj a1 a2 b1 b2 e
  have key : ∀ {s t s' t' : Nat}, s ≤ t → (t : Int) < st → s' ≤ t' → (t' : Int) < st → pre st s + t - s = pre st s' + t' - s' → ¬ s < s' := by
    intro s t s' t' c1 c2 d1 d2 e hlt
    have := pre_mono (st := st) (f := s + 1) (k := s') (by omega) (by omega)
    simp only [pre] at this
    omega
  have h1 := key c1 c2 d1 d2 e1
  have h2 := key d1 d2 c1 c2 e1.symm
  have : s = s' := by omega
  subst this
  exact ⟨rfl, by omega, e2⟩
theorem putN_get (cells own : List Cell) (at1 y : Nat) (hl : at1 + y ≤ cells.length) (i : Nat) (d : Cell) : (putN cells own at1 y).getD i d = if at1 ≤ i ∧ i < at1 + y then own.getD (i - at1) default else cells.getD i d := by
  induction y with
  | zero => simp only [putN, List.range_zero, List.foldl_nil]; rw [if_neg (by omega)]
  | succ y ih =>
    rw [putN_succ]
    have ih := ih (by omega)
    by_cases e : i = at1 + y
    · subst e
      rw [if_pos (by omega), show at1 + y - at1 = y by omega]
      simp only [List.getD, List.getElem?_set, putN_len]
      rw [if_pos trivial, if_pos (by omega)]
      rfl
    · have : ((putN cells own at1 y).set (at1 + y) (own.getD y default)).getD i d = (putN cells own at1 y).getD i d := by
        simp only [List.getD, List.getElem?_set]
        rw [if_neg (fun x => e x.symm)]
      rw [this, ih]
      by_cases h : at1 ≤ i ∧ i < at1 + y
      · rw [if_pos h, if_pos (by omega)]
      · rw [if_neg h, if_neg (by omega)]

section
variable {n : Normal} {l : Lattice}
theorem atI_in {c : Chart} {h : Int} {s t : Nat} (h0 : 0 ≤ h) (h1 : h < c.nonterms) (c1 : s ≤ t) (c2 : (t : Int) < c.states) : atI c h s t = c.cells.getD (indexI c.nonterms c.states s t + h).toNat none4 := by
  unfold atI
  rw [if_neg (by omega)]
  simp
def DoneP (n : Normal) (l : Lattice) (cells : List Cell) (len f : Nat) : Prop :=
  ∀ (h : Int) (s t : Nat), 0 ≤ h → h < n.nonterms → s ≤ t → (t : Int) < l.states → (t - s < len ∨ (t - s = len ∧ s < f)) → Good n l h s t (atI ⟨n.nonterms, l.states, cells⟩ h s t)
theorem done_step (hn : nOk n) (hl : lOk l) (ha : ∀ a ∈ l.arcs, a.f ≤ a.t) {cells : List Cell} {len f : Nat} (hc : cellsOk n l cells) (hf : ((f + len : Nat) : Int) < l.states) (hd : DoneP n l cells len f) : DoneP n l (stepL n l len cells f) len (f + 1) := by
  have h1 := hn.1; have h2 := hn.2.1; have h3 := hl.1; have h4 := hl.2.1
  have C : Ctx2 n l ⟨n.nonterms, l.states, cells⟩ f (f + len) := ⟨hn, hl, hc.ok hn hl, ha, by omega, by omega, fun h s' t' a1 a2 a3 a4 a5 a6 => hd h s' t' a1 a2 a4 (by omega) (by omega)⟩
  have hg := span_good C
  have hown := span_own hn hl C.hc C.st C.tm
  rw [show ((f + len : Nat) : Int) = (f : Int) + len by omega] at hg hown
  obtain ⟨own, ho⟩ : ∃ own, spanF n l ⟨n.nonterms, l.states, cells⟩ f ((f : Int) + len) = own := ⟨_, rfl⟩
  rw [ho] at hg hown
  have hib := indexI_bound (n := n.nonterms) (st := l.states) (f := f) (t := f + len) (by omega) h2 h4 (by omega) (by omega) (by omega)
  have hlt := index_lt (nn := n.nonterms) (st := l.states) (f := f) (t := f + len) (by omega) (by omega) (by omega) (i := n.nonterms - 1) (by omega)
  have hcl := hc.1
  intro h s t a1 a2 a3 a4 a5
  unfold stepL
  rw [ho, atI_in a1 a2 a3 a4]
  simp only
  have hsb := indexI_bound (n := n.nonterms) (st := l.states) (f := s) (t := t) (by omega) h2 h4 (by omega) (by omega) (by omega)
  rw [putN_get _ _ _ _ (by omega)]
  split
  · rename_i e
    have hx : indexI n.nonterms l.states s t + h = indexI n.nonterms l.states f (f + len) + (((indexI n.nonterms l.states s t + h).toNat - (indexI n.nonterms l.states f (f + len)).toNat : Nat) : Int) := by omega
    obtain ⟨e1, e2, e3⟩ := index_inj a1 a2 (by omega) (by omega) a3 a4 (by omega) (by omega) hx
    subst e1 e2
    obtain ⟨h, rfl⟩ := Int.eq_ofNat_of_zero_le a1
    have e4 : (indexI n.nonterms l.states s (s + len) + (h : Int)).toNat - (indexI n.nonterms l.states s (s + len)).toNat = h := by omega
    rw [e4]
    exact hg h a2
  · rename_i e
    have hne : ¬ (s = f ∧ t = f + len) := by
      rintro ⟨rfl, rfl⟩
      omega
    have := hd h s t a1 a2 a3 a4 (by omega)
    rw [atI_in a1 a2 a3 a4] at this
    exact this
theorem done_row (hn : nOk n) (hl : lOk l) (ha : ∀ a ∈ l.arcs, a.f ≤ a.t) {cells : List Cell} {len : Nat} (hc : cellsOk n l cells) (hd : DoneP n l cells len 0) : ∀ k, ((k + len : Nat) : Int) ≤ l.states → DoneP n l ((List.range k).foldl (stepL n l len) cells) len k
  | 0, _ => hd
  | k + 1, hk => by
    rw [List.range_succ, List.foldl_append]
    have h4 := hl.2.1
    exact done_step hn hl ha (rowL_ok hn hl hc k (by omega)) (by omega) (done_row hn hl ha hc hd k (by omega))
theorem done_rows (hn : nOk n) (hl : lOk l) (ha : ∀ a ∈ l.arcs, a.f ≤ a.t) : ∀ k : Nat, (k : Int) ≤ l.states → DoneP n l ((List.range k).foldl (rowL n l) (List.replicate (countI n.nonterms l.states).toNat ⟨0, 0, 0, 0⟩)) k 0 := by
  intro k
  induction k with
  | zero =>
    intro _ h s t a1 a2 a3 a4 a5
    omega
  | succ k ih =>
    intro hk
    rw [List.range_succ, List.foldl_append]
    have h4 := hl.2.1
    have := done_row hn hl ha (rowsL_ok hn hl k (by omega)) (ih (by omega)) (l.states.toNat - k) (by omega)
    intro h s t a1 a2 a3 a4 a5
    exact this h s t a1 a2 a3 a4 (by omega)
/-- The cells of the reference chart are good. -/
theorem build_good (hn : nOk n) (hl : lOk l) (ha : ∀ a ∈ l.arcs, a.f ≤ a.t) {h : Int} {s t : Nat} (a1 : 0 ≤ h) (a2 : h < n.nonterms) (a3 : s ≤ t) (a4 : (t : Int) < l.states) : Good n l h s t (atI (buildC n l) h s t) := by
  have h3 := hl.1
  exact done_rows hn hl ha l.states.toNat (by omega) h s t a1 a2 a3 a4 (by omega)
end
end Inc
end Go.Proofs
