/- The D-machine, part F: equality of values that are compared cell by cell. Conditions: none. -/
import Derived.Test.YtecgedikabjcdaaDmE
import Derived.Laws.StructEq
namespace Go.DM
open Go.RowKit
set_option linter.unusedSimpArgs false
set_option linter.unusedVariables false

def shFieldsOf (P : Program) (rec : TypeId → Option (List Sh)) (off : Nat) : List Field → Option (List Sh)
  | [] => some []
  | f :: fs =>
    match rec f.type, P.info? f.type with
    | some s, some i => if f.name ≠ "_" ∧ f.offset = off ∧ s.length = i.size then (shFieldsOf P rec (off + s.length) fs).map (s ++ ·) else none
    | _, _ => none
def shOf (P : Program) : Nat → TypeId → Option (List Sh)
  | 0, _ => none
  | d + 1, t =>
    match P.underlying t with
    | some .bool => some [.bool]
    | some (.int k) => some [.int k]
    | some .string => some [.str]
    | some (.struct fs) => if P.stoodInHeld t then none else shFieldsOf P (shOf P d) 0 fs.toList
    | some (.array n e) =>
      match shOf P d e, P.info? e with
      | some s, some i => if s.length = i.size ∧ 0 < i.size then some ((List.replicate n s).flatten) else none
      | _, _ => none
    | _ => none

def fit : Sh → Value → Bool
  | .bool, .bool _ => true
  | .int k, .int k' _ => k == k'
  | .str, .string _ => true
  | _, _ => false
def fits : List Sh → List Value → Prop
  | [], vs => vs = []
  | s :: ss, vs => ∃ v vs', vs = v :: vs' ∧ fit s v = true ∧ fits ss vs'
def veq : Value → Value → Bool
  | .bool a, .bool b => a == b
  | .int _ a, .int _ b => a == b
  | .string a, .string b => a.toList == b.toList
  | _, _ => false
def veqs : List Value → List Value → Bool
  | [], [] => true
  | a :: as, b :: bs => veq a b && veqs as bs
  | _, _ => false

theorem fits.length : ∀ {ss : List Sh} {vs : List Value}, fits ss vs → vs.length = ss.length
  | [], _, h => by simp only [fits] at h; simp [h]
  | _ :: ss, _, h => by
    simp only [fits] at h
    obtain ⟨v, vs', rfl, _, h⟩ := h
    simp [fits.length h]
theorem fits.split : ∀ {s1 s2 : List Sh} {vs : List Value}, fits (s1 ++ s2) vs → fits s1 (vs.take s1.length) ∧ fits s2 (vs.drop s1.length)
  | [], s2, vs, h => by simpa [fits] using h
  | s :: s1, s2, vs, h => by
    simp only [List.cons_append, fits] at h
    obtain ⟨v, vs', rfl, h1, h⟩ := h
    have := fits.split h
    simp only [List.length_cons, List.take_succ_cons, List.drop_succ_cons, fits]
    exact ⟨⟨v, _, rfl, h1, this.1⟩, this.2⟩
theorem veqs_append : ∀ {a b c d : List Value}, a.length = c.length → veqs (a ++ b) (c ++ d) = (veqs a c && veqs b d)
  | [], b, [], d, _ => by simp [veqs]
  | x :: a, b, [], d, h => by simp at h
  | [], b, y :: c, d, h => by simp at h
  | x :: a, b, y :: c, d, h => by
    simp only [List.cons_append, veqs]
    rw [veqs_append (by simpa using h), Bool.and_assoc]

/-- A value out of its cells. -/
def mkV (d : TypeDesc) (vs : List Value) : Value := if aggDesc d then .agg vs.toArray else vs.getD 0 Go.undef

section
variable {P : Program}
theorem run_part (w : World) {t : TypeId} {d : TypeDesc} {i : TypeInfo} (hd : P.underlying t = some d) (hi : P.info? t = some i) {xs : List Value} {off : Nat} (h1 : aggDesc d = true ∨ i.size = 1) (hl : off + i.size ≤ xs.length) :
    (part t xs.toArray off).run P w = .ok (mkV d ((xs.drop off).take i.size)) w := by
  have h1' : (isAgg t).run P w = .ok (aggDesc d) w := by rw [run_isAgg hd]; cases d <;> rfl
  simp only [part, Sem.run_bind, h1', Result.andThen_ok]
  by_cases ha : aggDesc d = true
  · simp only [ha, if_true, Sem.run_bind, run_sizeOf hi, Result.andThen_ok, Sem.run_pure, mkV]
    congr 3
    simp only [List.extract_toArray, List.extract_eq_take_drop]
    congr 2
    omega
  · have h2 := h1.resolve_left ha
    have hlt : off < xs.length := by omega
    simp only [ha, if_false, mkV, h2]
    simp [hlt]

theorem sh_desc {d : Nat} {t : TypeId} {shs : List Sh} (h : shOf P (d + 1) t = some shs) : ∃ desc, P.underlying t = some desc ∧ (aggDesc desc = true ∨ shs.length = 1) := by
  simp only [shOf] at h
  split at h
  · rename_i hu; exact ⟨_, hu, .inr (by simp at h; simp [← h])⟩
  · rename_i hu; exact ⟨_, hu, .inr (by simp at h; simp [← h])⟩
  · rename_i hu; exact ⟨_, hu, .inr (by simp at h; simp [← h])⟩
  · rename_i hu; exact ⟨_, hu, .inl rfl⟩
  · rename_i hu; exact ⟨_, hu, .inl rfl⟩
  · cases h

theorem eq_arr {d : Nat} {e : TypeId} {de : TypeDesc} {s : List Sh} {i : TypeInfo} (hd : P.underlying e = some de) (hi : P.info? e = some i) (h1 : aggDesc de = true ∨ i.size = 1) (hs : s.length = i.size) (hpos : 0 < i.size)
    (ih : ∀ (xs ys : List Value) (w : World), fits s xs → fits s ys → (Op.equalIn d e (mkV de xs) (mkV de ys)).run P w = .ok (veqs xs ys) w) (xs ys : List Value) :
    ∀ (n k : Nat) (w : World), fits ((List.replicate n s).flatten) (xs.drop (k * i.size)) → fits ((List.replicate n s).flatten) (ys.drop (k * i.size)) →
      (forIn (List.range' k n) (none, ()) (fun j (_ : Option Bool × Unit) => do
          let a ← part e xs.toArray (j * i.size)
          let b ← part e ys.toArray (j * i.size)
          let r ← Op.equalIn d e a b
          if (!r) = true then pure (ForInStep.done (some false, ())) else pure (ForInStep.yield (none, ()))) : Sem (Option Bool × Unit)).run P w =
        .ok (if veqs (xs.drop (k * i.size)) (ys.drop (k * i.size)) then (none, ()) else (some false, ())) w
  | 0, k, w, hx, hy => by
    simp only [List.replicate_zero, List.flatten_nil, fits] at hx hy
    simp [hx, hy, veqs]
  | n + 1, k, w, hx, hy => by
    simp only [List.replicate_succ, List.flatten_cons] at hx hy
    have hxl := fits.length hx
    have hyl := fits.length hy
    simp only [List.length_append, List.length_drop] at hxl hyl
    obtain ⟨hx1, hx2⟩ := fits.split hx
    obtain ⟨hy1, hy2⟩ := fits.split hy
    have e2 : k * i.size + s.length = (k + 1) * i.size := by rw [Nat.add_mul, hs]; omega
    rw [List.drop_drop, e2] at hx2 hy2
    have hsp : 0 < i.size := hpos
    have p1 := fun w => run_part (P := P) w hd hi (xs := xs) (off := k * i.size) h1 (by omega)
    have p2 := fun w => run_part (P := P) w hd hi (xs := ys) (off := k * i.size) h1 (by omega)
    rw [hs] at hx1 hy1
    have hr := ih _ _ w hx1 hy1
    have hsplit : veqs (xs.drop (k * i.size)) (ys.drop (k * i.size)) = (veqs ((xs.drop (k * i.size)).take i.size) ((ys.drop (k * i.size)).take i.size) && veqs (xs.drop ((k + 1) * i.size)) (ys.drop ((k + 1) * i.size))) := by
      have a1 : xs.drop (k * i.size) = (xs.drop (k * i.size)).take i.size ++ xs.drop ((k + 1) * i.size) := by
        rw [← e2, hs, ← List.drop_drop, List.take_append_drop]
      have a2 : ys.drop (k * i.size) = (ys.drop (k * i.size)).take i.size ++ ys.drop ((k + 1) * i.size) := by
        rw [← e2, hs, ← List.drop_drop, List.take_append_drop]
      rw [a1, a2, veqs_append (by simp; omega)]
      rw [← a1, ← a2]
    simp only [List.range'_succ, List.forIn_cons, Sem.run_bind, p1, p2, Result.andThen_ok, hr]
    rw [hsplit]
    cases hb : veqs ((xs.drop (k * i.size)).take i.size) ((ys.drop (k * i.size)).take i.size)
    · simp
    · have := eq_arr hd hi h1 hs hpos ih xs ys n (k + 1) w hx2 hy2
      simp only [Bool.not_true, Bool.false_eq_true, if_false, Sem.run_pure, Result.andThen_ok, Bool.true_and]
      exact this

theorem eq_fields {d : Nat} (ih : ∀ (t : TypeId) (shs : List Sh) (desc : TypeDesc), shOf P d t = some shs → P.underlying t = some desc → ∀ (xs ys : List Value) (w : World), fits shs xs → fits shs ys → (Op.equalIn d t (mkV desc xs) (mkV desc ys)).run P w = .ok (veqs xs ys) w)
    (hdesc : ∀ (t : TypeId) (shs : List Sh), shOf P d t = some shs → ∃ desc, P.underlying t = some desc ∧ (aggDesc desc = true ∨ shs.length = 1)) (xs ys : List Value) :
    ∀ (fs : List Field) (off : Nat) (shs : List Sh) (w : World), shFieldsOf P (shOf P d) off fs = some shs → fits shs (xs.drop off) → fits shs (ys.drop off) → off ≤ xs.length → off ≤ ys.length →
      (Op.eqFields d xs.toArray ys.toArray fs).run P w = .ok (veqs (xs.drop off) (ys.drop off)) w
  | [], off, shs, w, h, hx, hy, _, _ => by
    simp only [shFieldsOf, Option.some.injEq] at h
    subst h
    simp only [fits] at hx hy
    simp [Op.eqFields, hx, hy, veqs]
  | f :: fs, off, shs, w, h, hx, hy, hox, hoy => by
    simp only [shFieldsOf] at h
    split at h
    · rename_i s i hs hi
      split at h
      · rename_i hc
        obtain ⟨hn, rfl, hsz⟩ := hc
        simp only [Option.map_eq_some_iff] at h
        obtain ⟨rest, hrest, rfl⟩ := h
        obtain ⟨desc, hd, h1⟩ := hdesc _ _ hs
        have hxl := fits.length hx
        have hyl := fits.length hy
        simp only [List.length_append, List.length_drop] at hxl hyl
        obtain ⟨hx1, hx2⟩ := fits.split hx
        obtain ⟨hy1, hy2⟩ := fits.split hy
        rw [List.drop_drop] at hx2 hy2
        rw [hsz] at h1
        have p1 := fun w => run_part (P := P) w hd hi (xs := xs) (off := f.offset) h1 (by omega)
        have p2 := fun w => run_part (P := P) w hd hi (xs := ys) (off := f.offset) h1 (by omega)
        have hr := ih _ _ _ hs hd _ _ w hx1 hy1
        rw [hsz] at hr
        have hsplit : veqs (xs.drop f.offset) (ys.drop f.offset) = (veqs ((xs.drop f.offset).take i.size) ((ys.drop f.offset).take i.size) && veqs (xs.drop (f.offset + s.length)) (ys.drop (f.offset + s.length))) := by
          have a1 : xs.drop f.offset = (xs.drop f.offset).take i.size ++ xs.drop (f.offset + s.length) := by rw [hsz, ← List.drop_drop, List.take_append_drop]
          have a2 : ys.drop f.offset = (ys.drop f.offset).take i.size ++ ys.drop (f.offset + s.length) := by rw [hsz, ← List.drop_drop, List.take_append_drop]
          rw [a1, a2, veqs_append (by simp; omega)]
          rw [← a1, ← a2]
        simp only [Op.eqFields, hn, ne_eq, not_false_eq_true, if_true, Sem.run_bind, p1, p2, Result.andThen_ok, hr]
        rw [hsplit]
        cases hb : veqs ((xs.drop f.offset).take i.size) ((ys.drop f.offset).take i.size)
        · simp
        · simp only [Bool.not_true, Bool.false_eq_true, if_false, Bool.true_and]
          exact eq_fields ih hdesc xs ys fs _ rest w hrest hx2 hy2 (by omega) (by omega)
      · cases h
    · cases h

theorem equalIn_sh : ∀ (d : Nat) (t : TypeId) (shs : List Sh) (desc : TypeDesc), shOf P d t = some shs → P.underlying t = some desc → ∀ (xs ys : List Value) (w : World), fits shs xs → fits shs ys →
    (Op.equalIn d t (mkV desc xs) (mkV desc ys)).run P w = .ok (veqs xs ys) w
  | 0, t, shs, desc, h, _, _, _, _, _, _ => by simp [shOf] at h
  | d + 1, t, shs, desc, h, hu, xs, ys, w, hx, hy => by
    simp only [shOf, hu] at h
    have one : ∀ {s : Sh} {zs : List Value}, fits [s] zs → ∃ v, zs = [v] ∧ fit s v = true := by
      intro s zs hz
      simp only [fits] at hz
      obtain ⟨v, vs', rfl, h1, rfl⟩ := hz
      exact ⟨v, rfl, h1⟩
    cases desc
    case bool =>
      simp only [Option.some.injEq] at h
      subst h
      obtain ⟨x, rfl, gx⟩ := one hx
      obtain ⟨y, rfl, gy⟩ := one hy
      cases x <;> first | exact absurd gx Bool.false_ne_true | skip
      cases y <;> first | exact absurd gy Bool.false_ne_true | skip
      simp [mkV, aggDesc, veqs, veq, Op.equalIn, run_underlying hu]
    case int k =>
      simp only [Option.some.injEq] at h
      subst h
      obtain ⟨x, rfl, gx⟩ := one hx
      obtain ⟨y, rfl, gy⟩ := one hy
      cases x <;> first | exact absurd gx Bool.false_ne_true | skip
      simp only [fit, beq_iff_eq] at gx
      cases y <;> first | exact absurd gy Bool.false_ne_true | skip
      simp only [fit, beq_iff_eq] at gy
      subst gx gy
      simp [mkV, aggDesc, veqs, veq, Op.equalIn, run_underlying hu]
    case string =>
      simp only [Option.some.injEq] at h
      subst h
      obtain ⟨x, rfl, gx⟩ := one hx
      obtain ⟨y, rfl, gy⟩ := one hy
      cases x <;> first | exact absurd gx Bool.false_ne_true | skip
      cases y <;> first | exact absurd gy Bool.false_ne_true | skip
      simp [mkV, aggDesc, veqs, veq, Op.equalIn, run_underlying hu, beq_toListBytes]
    case struct fs =>
      replace h : (if P.stoodInHeld t then none else shFieldsOf P (shOf P d) 0 fs.toList) = some shs := h
      split at h
      · cases h
      · rename_i hp
        have hfo : P.fieldsOf t = fs := by simp [Program.fieldsOf, hu]
        simp only [mkV, aggDesc, if_true]
        rw [run_equalIn_struct w d t _ _ (by rw [hfo]; exact hu) (by simpa using hp), hfo]
        have := eq_fields (fun t shs desc => equalIn_sh d t shs desc) (fun t shs hs => by
          cases d with
          | zero => simp [shOf] at hs
          | succ d => exact sh_desc hs) xs ys fs.toList 0 shs w h (by simpa using hx) (by simpa using hy) (by omega) (by omega)
        simpa using this
    case array n e =>
      replace h : (match shOf P d e, P.info? e with
        | some s, some i => if s.length = i.size ∧ 0 < i.size then some ((List.replicate n s).flatten) else none
        | _, _ => none) = some shs := h
      split at h
      · rename_i s i hs hi
        split at h
        · rename_i hc
          simp only [Option.some.injEq] at h
          subst h
          have hde : ∃ desc, P.underlying e = some desc ∧ (aggDesc desc = true ∨ s.length = 1) := by
            cases d with
            | zero => simp [shOf] at hs
            | succ d => exact sh_desc hs
          obtain ⟨de, hd, h1⟩ := hde
          rw [hc.1] at h1
          have := eq_arr hd hi h1 hc.1 hc.2 (fun xs ys w => equalIn_sh d e s de hs hd xs ys w) xs ys n 0 w (by simpa using hx) (by simpa using hy)
          simp only [mkV, aggDesc, if_true, Op.equalIn, Sem.run_bind, run_underlying hu, Result.andThen_ok, run_sizeOf hi, Std.Legacy.Range.forIn_eq_forIn_range', Std.Legacy.Range.size, Nat.sub_zero, Nat.add_sub_cancel, Nat.div_one]
          simp only [Nat.zero_mul, List.drop_zero] at this
          refine (congrArg (fun r => Result.andThen r _) this).trans ?_
          cases veqs xs ys <;> rfl
        · cases h
      · cases h
    all_goals exact absurd h (by simp)
end
end Go.DM
