/- The D-machine, part Z: the operations on maps, strings' bytes, tests against nil; each does in the model what the machine says. Conditions: none. -/
import Derived.Test.YtecgedikabjcdaaXaa
import Derived.OrdersIn
import Derived.RangeFuncCalls
namespace Go.DM
open Go.RowKit
set_option linter.unusedSimpArgs false
set_option linter.unusedVariables false
set_option linter.unusedSectionVars false
variable [Laid]
section
variable {P : Program} {base : Nat} {W M : Nat → Prop} {w0 : World} {objs : Obs} {L : Loc} {w : World} {a : Act} {o : Oper}

theorem zeroD_rel {et : TypeId} {z : DV} (h : zeroD P et = some z) : ∃ zv, (zeroValue et).run P w = .ok zv w ∧ RelD w W objs L z zv := by
  unfold zeroD at h
  simp only [Option.bind_eq_bind, Option.bind_eq_some_iff] at h
  obtain ⟨i, hi, zv, hz, h⟩ := h
  refine ⟨zv, by simp [zeroValue, typeInfo, hi, hz], ?_⟩
  split at h
  · rename_i cs
    simp only [Option.map_eq_some_iff] at h
    obtain ⟨ds, hds, rfl⟩ := h
    simp only [RelD]
    exact ⟨cs, rfl, mapM_constD_rel hds⟩
  · exact (constD_rel h).1

theorem findE_at (t : T) (es : List (Nat × T × DV)) : findE t es = (es.findIdx? fun e => eqTB t e.2.1).bind (es[·]?) := by
  unfold findE
  induction es with
  | nil => rfl
  | cons e es ih =>
    simp only [List.find?_cons, List.findIdx?_cons]
    by_cases h : eqTB t e.2.1 = true
    · simp [h]
    · simp only [h, if_false, ih]
      cases List.findIdx? (fun e => eqTB t e.2.1) es <;> simp
theorem idx_lt {t : T} {es : List (Nat × T × DV)} {i : Nat} (h : (es.findIdx? fun e => eqTB t e.2.1) = some i) : ∃ e, es[i]? = some e ∧ eqTB t e.2.1 = true := by
  induction es generalizing i with
  | nil => simp at h
  | cons e es ih =>
    simp only [List.findIdx?_cons] at h
    by_cases he : eqTB t e.2.1 = true
    · simp only [he, if_true, Option.some.injEq] at h
      subst h
      exact ⟨e, rfl, he⟩
    · rw [if_neg he, Option.map_eq_some_iff] at h
      obtain ⟨j, hj, rfl⟩ := h
      simpa using ih hj

theorem lookup_sound (hO : RelO base W M w0 objs w L) {t kt et : TypeId} {x k : Operand} {ok : Bool} (ho : o.op = .lookup t x k ok) (ht : P.underlying t = some (.map kt et)) {shs : List Sh} {agg : Bool} (hk : keyInfo P kt = some (shs, agg)) {z : DV} (hz : zeroD P et = some z)
    {d1 d2 : DV} (h1 : RelD w W objs L d1 (a.eval x)) (h2 : RelD w W objs L d2 (a.eval k)) (hok : (lookupSem shs agg z ok objs d1 d2).ok) : OpRun P base W M w0 objs L w a o (lookupSem shs agg z ok objs d1 d2) := by
  unfold lookupSem at hok ⊢
  split at hok
  · rename_i r kt' hkt
    cases hc : objs r with
    | none => simp [hc, bad] at hok
    | some ob =>
      cases ob with
      | map shs' agg' c es =>
        simp only [hc] at hok ⊢
        obtain ⟨rfl, rfl, hkok⟩ := hok
        simp only [RelD] at h1
        obtain ⟨_, hx⟩ := h1
        have hkr := keyT_rel h2 hkt
        obtain ⟨arr, hh, hes, hall, _, _, _⟩ := hO.ob r _ hc
        have hck := fun em => run_checkK (P := P) (w := w) hk hkok hkr em
        have hf := run_findK (P := P) hk hkok hkr hes hall
        have hg := getObj_run (P := P) hh trivial
        simp only [hkt]
        rw [findE_at]
        unfold foundAt at hf
        cases hi : es.findIdx? (fun e => eqTB kt' e.2.1) with
        | none =>
          simp only [hi] at hf
          obtain ⟨zv, hzr, hzd⟩ := zeroD_rel (P := P) (w := w) (W := W) (objs := objs) (L := L) hz
          simp only [Option.bind_none]
          have hrun : (Instr.lookup t (.map (some (L.blk r))) (a.eval k) ok).run P w = .ok (if ok then .tuple #[zv, .bool false] else zv) w := by
            simp [Instr.lookup, run_underlying ht, hg, hck, hf, hzr]
          refine OpRun.quiet hO rfl (v := if ok then .tuple #[zv, .bool false] else zv) (by simp [execOp, ho, hx, hrun]) ?_
          cases ok
          · simpa using hzd
          · simp only [if_true, RelD]
            exact ⟨_, rfl, by simp only [RelDa]; exact ⟨zv, _, rfl, hzd, .bool false, [], rfl, by simp [RelD, RelT], rfl⟩⟩
        | some i =>
          obtain ⟨e, he, hq⟩ := idx_lt hi
          obtain ⟨xe, hxe, _, _, hv⟩ := RelEs.get hes he
          simp only [hi, hxe, Option.map_some] at hf
          simp only [Option.bind_some, he]
          have hrun : (Instr.lookup t (.map (some (L.blk r))) (a.eval k) ok).run P w = .ok (if ok then .tuple #[xe.val, .bool true] else xe.val) w := by
            simp [Instr.lookup, run_underlying ht, hg, hck, hf]
          refine OpRun.quiet hO rfl (v := if ok then .tuple #[xe.val, .bool true] else xe.val) (by simp [execOp, ho, hx, hrun]) ?_
          cases ok
          · simpa using hv
          · simp only [if_true, RelD]
            exact ⟨_, rfl, by simp only [RelDa]; exact ⟨xe.val, _, rfl, hv, .bool true, [], rfl, by simp [RelD, RelT], rfl⟩⟩
      | _ => simp [hc, bad] at hok
  · exact hok.elim

theorem nodup_modify {es : List (Nat × T × DV)} {y : DV} (i : Nat) : (es.modify i fun e => (e.1, e.2.1, y)).map (·.1) = es.map (·.1) := by
  induction es generalizing i with
  | nil => simp
  | cons e es ih => cases i <;> simp [ih]
theorem keys_modify {es : List (Nat × T × DV)} {y : DV} (i : Nat) {e : Nat × T × DV} (h : e ∈ es.modify i fun e => (e.1, e.2.1, y)) : ∃ e' ∈ es, e.1 = e'.1 ∧ e.2.1 = e'.2.1 := by
  induction es generalizing i with
  | nil => simp at h
  | cons e0 es ih =>
    cases i with
    | zero =>
      simp only [List.modify_zero_cons, List.mem_cons] at h
      rcases h with rfl | h
      · exact ⟨e0, by simp, rfl, rfl⟩
      · exact ⟨e, by simp [h], rfl, rfl⟩
    | succ i =>
      simp only [List.modify_succ_cons, List.mem_cons] at h
      rcases h with rfl | h
      · exact ⟨e, by simp, rfl, rfl⟩
      · obtain ⟨e', h1, h2⟩ := ih i h
        exact ⟨e', by simp [h1], h2⟩

theorem modify_key {es : List (Nat × T × DV)} {xs : List MapEntry} {i : Nat} {v key : Value} {x : MapEntry} (hx : xs[i]? = some x) (hk : x.key = key) : (xs.modify i fun e => { e with key := key, val := v }) = xs.modify i fun e => { e with val := v } := by
  induction xs generalizing i with
  | nil => simp
  | cons y ys ih =>
    cases i with
    | zero =>
      simp only [List.getElem?_cons_zero, Option.some.injEq] at hx
      subst hx hk
      simp
    | succ i =>
      simp only [List.modify_succ_cons, List.cons.injEq, true_and]
      exact ih (by simpa using hx)

theorem mapUpd_sound (hO : RelO base W M w0 objs w L) {t kt et : TypeId} {x k y : Operand} (ho : o.op = .mapUpdate t x k y) (ht : P.underlying t = some (.map kt et)) {shs : List Sh} {agg : Bool} (hk : keyInfo P kt = some (shs, agg))
    {d1 d2 d3 : DV} (h1 : RelD w W objs L d1 (a.eval x)) (h2 : RelD w W objs L d2 (a.eval k)) (h3 : RelD w W objs L d3 (a.eval y)) (hok : (mapUpdSem shs agg objs d1 d2 d3).ok) : OpRun P base W M w0 objs L w a o (mapUpdSem shs agg objs d1 d2 d3) := by
  unfold mapUpdSem at hok ⊢
  split at hok
  · rename_i r kt' hkt
    cases hc : objs r with
    | none => simp [hc, bad] at hok
    | some ob =>
      cases ob with
      | map shs' agg' c es =>
        simp only [hc] at hok ⊢
        obtain ⟨rfl, rfl, hkok, hb⟩ := hok
        simp only [RelD] at h1
        obtain ⟨_, hx⟩ := h1
        have hkr := keyT_rel h2 hkt
        obtain ⟨arr, hh, hes, hall, hlt, hnd, hm⟩ := hO.ob r _ hc
        have hck := fun em => run_checkK (P := P) (w := w) hk hkok hkr em
        have hf := run_findK (P := P) hk hkok hkr hes hall
        have hg := getObj_run (P := P) hh trivial
        have hs := fun y => setObj_run (P := P) (y := y) hh trivial
        simp only [hkt]
        unfold foundAt at hf
        unfold setE clockE
        cases hi : es.findIdx? (fun e => eqTB kt' e.2.1) with
        | none =>
          simp only [hi] at hf
          simp only
          have hrun : (Instr.mapUpdate t (.map (some (L.blk r))) (a.eval k) (a.eval y)).run P w = .ok () (w.setObj' (L.blk r) (.map (arr.push { key := a.eval k, val := a.eval y, born := c }) (c + 1))) := by
            simp [Instr.mapUpdate, run_underlying ht, hg, hck, hf, hs]
          have := put_map hO hc (shs' := shs') (agg' := agg') (c' := c + 1) (es' := es ++ [(c, kt', d3)]) (arr' := arr.push { key := a.eval k, val := a.eval y, born := c })
            (by rw [Array.toList_push]; exact RelEs.append hes (by simp only [RelEs]; exact ⟨_, _, rfl, rfl, hkr, h3, rfl⟩))
            (fun e he => by rcases List.mem_append.1 he with he | he; · exact hall e he
                            · simp only [List.mem_singleton] at he; subst he; exact hkok)
            (fun e he => by rcases List.mem_append.1 he with he | he; · have := hlt e he; omega
                            · simp only [List.mem_singleton] at he; subst he; simp)
            (by rw [List.map_append, List.nodup_append]; exact ⟨hnd, by simp, fun b hb b2 hb2 => by
                  simp only [List.map_cons, List.map_nil, List.mem_singleton] at hb2
                  obtain ⟨e, he, rfl⟩ := List.mem_map.1 hb
                  have := hlt e he
                  omega⟩)
          exact ⟨.skip, Go.undef, _, L, by simp [execOp, ho, hx, hrun], .inr ⟨rfl, rfl⟩, this.1, this.2, by simp [RelD]⟩
        | some i =>
          obtain ⟨e, he, hq⟩ := idx_lt hi
          obtain ⟨xe, hxe, _, hxk, hv⟩ := RelEs.get hes he
          simp only [hi, hxe, Option.map_some] at hf
          have hte : kt' = e.2.1 := key_inj hkok (hall e (List.mem_of_getElem? he)) hq
          have hkey : xe.key = a.eval k := key_val hkok (by rw [hte]; exact hxk) hkr
          have hkts : (Instr.keyThatStays xe.key (a.eval k)).run P w = .ok (a.eval k) w := by
            rw [hkey]
            simp [Instr.keyThatStays, key_same hkok hkr]
          have hai : arr[i]? = some xe := by simpa using hxe
          have hrun : (Instr.mapUpdate t (.map (some (L.blk r))) (a.eval k) (a.eval y)).run P w = .ok () (w.setObj' (L.blk r) (.map (arr.modify i fun e => { e with key := a.eval k, val := a.eval y }) c)) := by
            simp [Instr.mapUpdate, run_underlying ht, hg, hck, hf, hs, hai, hkts]
          have harr : (arr.modify i fun e => { e with key := a.eval k, val := a.eval y }).toList = arr.toList.modify i fun e => { e with val := a.eval y } := by
            rw [Array.toList_modify]
            exact modify_key (es := es) (by simpa using hai) hkey
          simp only
          have := put_map hO hc (shs' := shs') (agg' := agg') (c' := c) (es' := es.modify i fun e => (e.1, e.2.1, d3)) (arr' := arr.modify i fun e => { e with key := a.eval k, val := a.eval y })
            (by rw [harr]; exact RelEs.modify h3 i hes)
            (fun e he => by obtain ⟨e', h1, _, h2⟩ := keys_modify i he; rw [h2]; exact hall e' h1)
            (fun e he => by obtain ⟨e', h1, h2, _⟩ := keys_modify i he; rw [h2]; exact hlt e' h1)
            (by rw [nodup_modify]; exact hnd)
          exact ⟨.skip, Go.undef, _, L, by simp [execOp, ho, hx, hrun], .inr ⟨rfl, rfl⟩, this.1, this.2, by simp [RelD]⟩
      | _ => simp [hc, bad] at hok
  · exact hok.elim

theorem mapEnt_sound (hO : RelO base W M w0 objs w L) {t kt et : TypeId} {x k : Operand} (ho : o.op = .mapEntry t x k) (ht : P.underlying t = some (.map kt et)) {shs : List Sh} {agg : Bool} (hk : keyInfo P kt = some (shs, agg)) {z : DV} (hz : zeroD P et = some z)
    {d1 d2 : DV} (h1 : RelD w W objs L d1 (a.eval x)) (h2 : RelD w W objs L d2 (a.eval k)) (hok : (mapEntSem shs agg z objs d1 d2).ok) : OpRun P base W M w0 objs L w a o (mapEntSem shs agg z objs d1 d2) := by
  unfold mapEntSem at hok ⊢
  split at hok
  · rename_i r kt' hkt
    cases hc : objs r with
    | none => simp [hc, bad] at hok
    | some ob =>
      cases ob with
      | map shs' agg' c es =>
        simp only [hc] at hok ⊢
        obtain ⟨rfl, rfl, hkok⟩ := hok
        simp only [RelD] at h1
        obtain ⟨_, hx⟩ := h1
        have hkr := keyT_rel h2 hkt
        obtain ⟨arr, hh, hes, hall, hlt, hnd, hm⟩ := hO.ob r _ hc
        have hck := fun em => run_checkK (P := P) (w := w) hk hkok hkr em
        have hf := run_findK (P := P) hk hkok hkr hes hall
        have hg := getObj_run (P := P) hh trivial
        have hs := fun y => setObj_run (P := P) (y := y) hh trivial
        simp only [hkt]
        unfold entV
        rw [findE_at]
        unfold foundAt at hf
        unfold entE clockE
        cases hi : es.findIdx? (fun e => eqTB kt' e.2.1) with
        | none =>
          simp only [hi] at hf
          obtain ⟨zv, hzr, hzd⟩ := zeroD_rel (P := P) (w := w) (W := W) (objs := objs) (L := L) hz
          simp only [Option.bind_none]
          have hrun : (Instr.mapEntry t (.map (some (L.blk r))) (a.eval k)).run P w = .ok (.tuple #[zv, goInt c]) (w.setObj' (L.blk r) (.map (arr.push { key := a.eval k, val := zv, born := c }) (c + 1))) := by
            simp [Instr.mapEntry, run_underlying ht, hg, hck, hf, hs, hzr]
          have := put_map hO hc (shs' := shs') (agg' := agg') (c' := c + 1) (es' := es ++ [(c, kt', z)]) (arr' := arr.push { key := a.eval k, val := zv, born := c })
            (by rw [Array.toList_push]; exact RelEs.append hes (by simp only [RelEs]; exact ⟨_, _, rfl, rfl, hkr, hzd, rfl⟩))
            (fun e he => by rcases List.mem_append.1 he with he | he; · exact hall e he
                            · simp only [List.mem_singleton] at he; subst he; exact hkok)
            (fun e he => by rcases List.mem_append.1 he with he | he; · have := hlt e he; omega
                            · simp only [List.mem_singleton] at he; subst he; simp)
            (by rw [List.map_append, List.nodup_append]; exact ⟨hnd, by simp, fun b hb b2 hb2 => by
                  simp only [List.map_cons, List.map_nil, List.mem_singleton] at hb2
                  obtain ⟨e, he, rfl⟩ := List.mem_map.1 hb
                  have := hlt e he
                  omega⟩)
          refine ⟨.value (.tuple #[zv, goInt c]), .tuple #[zv, goInt c], _, L, by simp [execOp, ho, hx, hrun], .inl rfl, this.1, this.2, ?_⟩
          have hz2 := RelD.adv this.2 _ _ hzd
          simp only [RelD]
          exact ⟨_, rfl, by simp only [RelDa]; exact ⟨zv, _, rfl, hz2, goInt c, [], rfl, by simp [RelD, RelT, goInt], rfl⟩⟩
        | some i =>
          obtain ⟨e, he, hq⟩ := idx_lt hi
          obtain ⟨xe, hxe, hxb, hxk, hv⟩ := RelEs.get hes he
          simp only [hi, hxe, Option.map_some] at hf
          have hte : kt' = e.2.1 := key_inj hkok (hall e (List.mem_of_getElem? he)) hq
          have hkey : xe.key = a.eval k := key_val hkok (by rw [hte]; exact hxk) hkr
          have hkts : (Instr.keyThatStays xe.key (a.eval k)).run P w = .ok (a.eval k) w := by
            rw [hkey]
            simp [Instr.keyThatStays, key_same hkok hkr]
          have hai : arr[i]? = some xe := by simpa using hxe
          have harr : (arr.modify i fun e => { e with key := a.eval k }).toList = arr.toList := by
            rw [Array.toList_modify]
            apply List.ext_getElem?
            intro j
            rw [List.getElem?_modify]
            split
            · rename_i hj; subst hj; rw [hxe]; simp [← hkey]
            · simp
          have hrun : (Instr.mapEntry t (.map (some (L.blk r))) (a.eval k)).run P w = .ok (.tuple #[xe.val, goInt xe.born]) (w.setObj' (L.blk r) (.map (arr.modify i fun e => { e with key := a.eval k }) c)) := by
            simp [Instr.mapEntry, run_underlying ht, hg, hck, hf, hs, hai, hkts]
          have := put_map hO hc (shs' := shs') (agg' := agg') (c' := c) (es' := es) (arr' := arr.modify i fun e => { e with key := a.eval k })
            (by rw [harr]; exact hes) hall hlt hnd
          simp only [Option.bind_some, he]
          refine ⟨.value (.tuple #[xe.val, goInt xe.born]), .tuple #[xe.val, goInt xe.born], _, L, by simp [execOp, ho, hx, hrun], .inl rfl, this.1, this.2, ?_⟩
          have hz2 := RelD.adv this.2 _ _ hv
          simp only [RelD]
          exact ⟨_, rfl, by simp only [RelDa]; exact ⟨xe.val, _, rfl, hz2, goInt xe.born, [], rfl, by simp [RelD, RelT, goInt, hxb], rfl⟩⟩
      | _ => simp [hc, bad] at hok
  · exact hok.elim

theorem born_idx {es : List (Nat × T × DV)} {xs : List MapEntry} {b : Int} (h : RelEs w W objs L es xs) : xs.findIdx? (fun e => (e.born : Int) == b) = es.findIdx? (fun e => (e.1 : Int) == b) := by
  induction es generalizing xs with
  | nil => simp only [RelEs] at h; subst h; rfl
  | cons e es ih =>
    simp only [RelEs] at h
    obtain ⟨x, xs', rfl, hb, _, _, hr⟩ := h
    simp only [List.findIdx?_cons, ih hr, hb]

theorem entSt_sound (hO : RelO base W M w0 objs w L) {t : TypeId} {x s y : Operand} (ho : o.op = .entryStore t x s y)
    {d1 d2 d3 : DV} (h1 : RelD w W objs L d1 (a.eval x)) (h2 : RelD w W objs L d2 (a.eval s)) (h3 : RelD w W objs L d3 (a.eval y)) (hok : (entStSem objs d1 d2 d3).ok) : OpRun P base W M w0 objs L w a o (entStSem objs d1 d2 d3) := by
  unfold entStSem at hok ⊢
  split at hok
  · rename_i r kk b
    cases hc : objs r with
    | none => simp [hc, bad] at hok
    | some ob =>
      cases ob with
      | map shs agg c es =>
        simp only [hc] at hok ⊢
        simp only [RelD, RelT] at h1 h2
        obtain ⟨_, hx⟩ := h1
        obtain ⟨arr, hh, hes, hall, hlt, hnd, hm⟩ := hO.ob r _ hc
        have hg := getObj_run (P := P) hh trivial
        have hs := fun y => setObj_run (P := P) (y := y) hh trivial
        unfold setB at hok ⊢
        cases hi : es.findIdx? (fun e => (e.1 : Int) == b) with
        | none => simp [hi, bad] at hok
        | some i =>
          simp only [Option.map_some]
          have hbi := (born_idx (b := b) hes).trans hi
          have hbi' : arr.findIdx? (fun e => (e.born : Int) == b) = some i := by rw [← hbi]; cases arr; simp
          have hrun : (Instr.entryStore t (.map (some (L.blk r))) (.int kk b) (a.eval y)).run P w = .ok () (w.setObj' (L.blk r) (.map (arr.modify i fun e => { e with val := a.eval y }) c)) := by
            simp [Instr.entryStore, hg, hs, asInt, asIntOf, hbi']
          have := put_map hO hc (shs' := shs) (agg' := agg) (c' := c) (es' := es.modify i fun e => (e.1, e.2.1, d3)) (arr' := arr.modify i fun e => { e with val := a.eval y })
            (by rw [Array.toList_modify]; exact RelEs.modify h3 i hes)
            (fun e he => by obtain ⟨e', h1, _, h2⟩ := keys_modify i he; rw [h2]; exact hall e' h1)
            (fun e he => by obtain ⟨e', h1, h2, _⟩ := keys_modify i he; rw [h2]; exact hlt e' h1)
            (by rw [nodup_modify]; exact hnd)
          exact ⟨.skip, Go.undef, _, L, by simp [execOp, ho, hx, h2, hrun], .inr ⟨rfl, rfl⟩, this.1, this.2, by simp [RelD]⟩
      | _ => simp [hc, bad] at hok
  · exact hok.elim

theorem mapDel_sound (hO : RelO base W M w0 objs w L) {t kt et : TypeId} {x k : Operand} {ts : Array TypeId} (hts : ts[0]? = some t) (ho : o.op = .call { callee := .builtin .delete, args := #[x, k], argTypes := ts }) (ht : P.underlying t = some (.map kt et)) {shs : List Sh} {agg : Bool} (hk : keyInfo P kt = some (shs, agg))
    {d1 d2 : DV} (h1 : RelD w W objs L d1 (a.eval x)) (h2 : RelD w W objs L d2 (a.eval k)) (hok : (mapDelSem shs agg objs d1 d2).ok) : OpRun P base W M w0 objs L w a o (mapDelSem shs agg objs d1 d2) := by
  unfold mapDelSem at hok ⊢
  split at hok
  · rename_i r kt' hkt
    cases hc : objs r with
    | none => simp [hc, bad] at hok
    | some ob =>
      cases ob with
      | map shs' agg' c es =>
        simp only [hc] at hok ⊢
        obtain ⟨rfl, rfl, hkok⟩ := hok
        simp only [RelD] at h1
        obtain ⟨_, hx⟩ := h1
        have hkr := keyT_rel h2 hkt
        obtain ⟨arr, hh, hes, hall, hlt, hnd, hm⟩ := hO.ob r _ hc
        have hck := fun em => run_checkK (P := P) (w := w) hk hkok hkr em
        have hf := run_findK (P := P) hk hkok hkr hes hall
        have hg := getObj_run (P := P) hh trivial
        have hs := fun y => setObj_run (P := P) (y := y) hh trivial
        simp only [hkt]
        unfold foundAt at hf
        unfold delE
        cases hi : es.findIdx? (fun e => eqTB kt' e.2.1) with
        | none =>
          simp only [hi] at hf
          simp only
          have := put_map hO hc (shs' := shs') (agg' := agg') (c' := c) (es' := es) (arr' := arr) hes hall hlt hnd
          refine ⟨.value (.tuple #[]), .tuple #[], _, L, ?_, .inl rfl, this.1, this.2, by simp only [RelD, RelT, RelA]; exact ⟨_, rfl, rfl⟩⟩
          simp [execOp, ho, resolve, invoke, builtin, Builtin.delete_, hts, hx, run_underlying ht, hg, hck, hf, hs]
        | some i =>
          obtain ⟨e, he, hq⟩ := idx_lt hi
          obtain ⟨xe, hxe, _, hxk, hv⟩ := RelEs.get hes he
          simp only [hi, hxe, Option.map_some] at hf
          have harr : (arr.eraseIdxIfInBounds i).toList = arr.toList.eraseIdx i := by
            have : i < arr.size := by have := (List.getElem?_eq_some_iff.1 hxe).1; simpa using this
            unfold Array.eraseIdxIfInBounds
            simp [this]
          simp only
          have := put_map hO hc (shs' := shs') (agg' := agg') (c' := c) (es' := es.eraseIdx i) (arr' := arr.eraseIdxIfInBounds i)
            (by rw [harr]; exact RelEs.erase i hes)
            (fun e he => hall e (List.mem_of_mem_eraseIdx he))
            (fun e he => hlt e (List.mem_of_mem_eraseIdx he))
            (List.Sublist.nodup ((List.eraseIdx_sublist _ _).map _) hnd)
          refine ⟨.value (.tuple #[]), .tuple #[], _, L, ?_, .inl rfl, this.1, this.2, by simp only [RelD, RelT, RelA]; exact ⟨_, rfl, rfl⟩⟩
          simp [execOp, ho, resolve, invoke, builtin, Builtin.delete_, hts, hx, run_underlying ht, hg, hck, hf, hs]
      | _ => simp [hc, bad] at hok
  · exact hok.elim

theorem lenM_sound (hO : RelO base W M w0 objs w L) {x : Operand} {t kt et : TypeId} (ho : o.op = .call { callee := .builtin .len, args := #[x], argTypes := #[t] }) (ht : P.underlying t = some (.map kt et)) {d : DV} (h : RelD w W objs L d (a.eval x)) (hok : (lenMSem objs d).ok) :
    OpRun P base W M w0 objs L w a o (lenMSem objs d) := by
  unfold lenMSem at hok ⊢
  split at hok
  · rename_i r
    cases hc : objs r with
    | none => simp [hc, bad] at hok
    | some ob =>
      cases ob with
      | map shs agg c es =>
        simp only [RelD] at h
        obtain ⟨_, hx⟩ := h
        obtain ⟨arr, hh, hes, _⟩ := hO.ob r _ hc
        have hg := getObj_run (P := P) hh trivial
        have hl := RelEs.length hes
        simp only [Array.length_toList] at hl
        refine OpRun.int hO rfl rfl ?_
        simp [execOp, ho, resolve, invoke, builtin, hx, Builtin.len_, run_underlying ht, goInt, hg, hl]
      | _ => simp [hc, bad] at hok
  · exact hok.elim

theorem mkMap_sound (hO : RelO base W M w0 objs w L) {name : Nat} (hname : objs name = none) {t : TypeId} (ho : o.op = .makeMap t none) (shs : List Sh) (agg : Bool) :
    OpRun P base W M w0 objs L w a o ⟨True, .mref name, some (name, .map shs agg 0 [])⟩ := by
  have hb := below_alloc (w := w) (.map #[] 0)
  have h := RelO.put hO (r := name) (L' := L.setBlk name w.heap.size) (o' := .map shs agg 0 []) (fr_below hO.fr hb) hb.size (fun x hx => ⟨by simp [Loc.setBlk, hx], rfl⟩) rfl (fun b hlt _ => hb.block b hlt) (fun b h => .inr (by
      simp only [Loc.own, Loc.setBlk, if_true, Option.some.injEq] at h; omega))
    (fun o' h _ => by rw [hname] at h; cases h) (fun _ _ _ _ h => by rw [hname] at h; cases h) (fun adv => by
      refine ⟨#[], ?_, by simp [RelEs], by simp, by simp, by simp, .inl ?_⟩
      · simp only [Loc.setBlk, if_true]; exact heap_alloc_new w _
      · simp only [Loc.setBlk, if_true]; exact Nat.le_trans hO.fr.size0 hO.fr.size)
  refine ⟨_, .map (some w.heap.size), _, _, ?_, .inl rfl, h.1, h.2, ?_⟩
  · simp [execOp, ho, Instr.makeMap]
  · simp only [RelD]
    exact ⟨⟨shs, agg, 0, [], by simp [putO]⟩, by simp [Loc.setBlk]⟩

theorem rangeM_sound (hO : RelO base W M w0 objs w L) {name : Nat} (hname : objs name = none) {x : Operand} {t kt et : TypeId} (ho : o.op = .range t x) (ht : P.underlying t = some (.map kt et)) {d : DV} (h : RelD w W objs L d (a.eval x)) (hok : (rangeMSem name objs d).ok) :
    OpRun P base W M w0 objs L w a o (rangeMSem name objs d) := by
  unfold rangeMSem at hok ⊢
  split at hok
  · rename_i r
    cases hc : objs r with
    | none => simp [hc, bad] at hok
    | some ob =>
      cases ob with
      | map shs agg c es =>
        simp only [RelD] at h
        obtain ⟨hmp, hx⟩ := h
        obtain ⟨arr, hh, hes, _⟩ := hO.ob r _ hc
        have hg := getObj_run (P := P) hh trivial
        have hne : r ≠ name := fun e => by rw [e, hname] at hc; cases hc
        have hb := below_alloc (w := w) (.mapIter (some (L.blk r)) c #[] c)
        have h := RelO.put hO (r := name) (L' := L.setBlk name w.heap.size) (o' := .iter r c [] c) (fr_below hO.fr hb) hb.size (fun x hx => ⟨by simp [Loc.setBlk, hx], rfl⟩) rfl (fun b hlt _ => hb.block b hlt) (fun b h => .inr (by
            simp only [Loc.own, Loc.setBlk, if_true, Option.some.injEq] at h; omega))
          (fun o' h _ => by rw [hname] at h; cases h) (fun _ _ _ _ h => by rw [hname] at h; cases h) (fun adv => by
            refine ⟨?_, ⟨shs, agg, c, es, by simp [putO, hne, hc]⟩, .inl ?_⟩
            · simp only [Loc.setBlk, if_true, hne, if_false]; exact heap_alloc_new w _
            · simp only [Loc.setBlk, if_true]; exact Nat.le_trans hO.fr.size0 hO.fr.size)
        simp only [hc]
        refine ⟨_, .pointer (some ⟨w.heap.size, 0, none⟩), _, _, ?_, .inl rfl, h.1, h.2, ?_⟩
        · simp [execOp, ho, Instr.range, hx, run_underlying ht, hg]
        · simp only [RelD]
          exact ⟨⟨r, c, [], c, by simp [putO]⟩, by simp [Loc.setBlk]⟩
      | _ => simp [hc, bad] at hok
  · exact hok.elim

theorem find_stamp {b : Nat} : ∀ {es : List (Nat × T × DV)} {xs : List MapEntry}, RelEs w W objs L es xs → ∀ {e : Nat × T × DV}, (es.find? fun e => e.1 == b) = some e → ∃ x, (xs.find? fun x => x.born == b) = some x ∧ RelT w (WW W objs L) e.2.1 x.key ∧ RelD w W objs L e.2.2 x.val
  | [], _, _, e, h => by simp at h
  | e0 :: es, xs, hr, e, h => by
    simp only [RelEs] at hr
    obtain ⟨x, xs', rfl, h1, h2, h3, h4⟩ := hr
    simp only [List.find?_cons, h1] at h ⊢
    by_cases hb : (e0.1 == b) = true
    · simp only [hb] at h ⊢
      cases h
      exact ⟨x, rfl, h2, h3⟩
    · simp only [hb] at h ⊢
      exact find_stamp h4 h

theorem entryM_sound (hO : RelO base W M w0 objs w L) {x : Operand} (ho : o.op = .entry x) {d : DV} (h : RelD w W objs L d (a.eval x)) (hok : (entryMSem objs d).ok) :
    OpRun P base W M w0 objs L w a o (entryMSem objs d) := by
  unfold entryMSem at hok ⊢
  split at hok
  · rename_i r
    cases hc : objs r with
    | none => simp [hc, bad] at hok
    | some ob =>
      cases ob with
      | iter m s sn l =>
        simp only [hc] at hok ⊢
        cases hm : objs m with
        | none => simp [hm, bad] at hok
        | some om =>
          cases om with
          | map shs agg c es =>
            simp only [hm] at hok ⊢
            cases hl : sn.getLast? with
            | none => simp [hl, bad] at hok
            | some b =>
              simp only [hl] at hok ⊢
              cases hf : es.find? (fun e => e.1 == b) with
              | none => simp [hf, bad] at hok
              | some e =>
                simp only [hf] at hok ⊢
                subst hok
                simp only [RelD] at h
                obtain ⟨_, hx⟩ := h
                obtain ⟨hh, _, _⟩ := hO.ob r _ hc
                obtain ⟨arr, hh2, hes, _⟩ := hO.ob m _ hm
                have hg := getObj_run (P := P) hh trivial
                have hg2 := getObj_run (P := P) hh2 trivial
                obtain ⟨xe, hxe, k1, k2⟩ := find_stamp hes hf
                have hback : sn.toArray.back? = some b := by rw [List.back?_toArray]; exact hl
                have hfa : arr.find? (fun x => x.born == b) = some xe := by rw [← Array.find?_toList]; exact hxe
                refine OpRun.quiet hO rfl (v := .tuple #[xe.key, xe.val]) ?_ ?_
                · simp [execOp, ho, Instr.entry, hx, hg, hback, hg2, hfa]
                · simp only [RelD]
                  exact ⟨_, rfl, by simp only [RelDa]; exact ⟨_, _, rfl, by simpa [RelD] using k1, _, _, rfl, k2, rfl⟩⟩
          | _ => simp [hm, bad] at hok
      | _ => simp [hc, bad] at hok
  · exact hok.elim

theorem indexS_sound (hO : RelO base W M w0 objs w L) {t : TypeId} {x i : Operand} (ho : o.op = .index t x i) (ht : P.underlying t = some .string) {d1 d2 : DV} (h1 : RelD w W objs L d1 (a.eval x)) (h2 : RelD w W objs L d2 (a.eval i)) (hok : (indexSSem d1 d2).ok) :
    OpRun P base W M w0 objs L w a o (indexSSem d1 d2) := by
  unfold indexSSem at hok ⊢
  split at hok
  · rename_i s k j
    simp only [RelD, RelT] at h1 h2
    obtain ⟨h0, hlt⟩ := hok
    have hj : j.toNat < s.size := by omega
    have hj' : j.toNat < s.data.size := hj
    have hget : s[j.toNat]? = some (s.data.getD j.toNat 0) := by
      rw [getElem?_pos s j.toNat hj]
      simp [Array.getD, hj', ByteArray.getElem_eq_getElem_data]
      intro h; omega
    refine OpRun.int hO rfl rfl ?_
    simp [execOp, ho, Instr.index, h1, h2, asIntOf, run_underlying ht, h0, hget]
  · exact hok.elim

theorem run_nil {op : BinOp} {neg : Bool} (hop : op = if neg then .neq else .eql) {t : TypeId} {x y : Operand} {yt : TypeId} (ho : o.op = .binOp op t x y yt) {r : Bool} (hne : ∀ k n, a.eval x ≠ .int k n) (hni : a.eval x ≠ .nilIface) (hna : ∀ cs, a.eval x ≠ .agg cs) (hnf : ∀ k b, a.eval x ≠ .float k b) (hnc : ∀ k b c, a.eval x ≠ .complex k b c) (hns : ∀ s, a.eval x ≠ .string s)
    (he : (Op.equal t (a.eval x) (a.eval y)).run P w = .ok r w) (hg : (eqGuard op t x y (a.eval x) (a.eval y)).run P w = .ok () w) : (execOp a.eval o).run P w = .ok (.value (.bool (neg ^^ r))) w := by
  have hb : (binOp op t (a.eval x) (a.eval y)).run P w = .ok (.bool (neg ^^ r)) w := by
    generalize a.eval x = xv at *
    subst hop
    cases neg <;> cases xv <;> first | exact absurd rfl (hne _ _) | exact absurd rfl hni | exact absurd rfl (hna _) | exact absurd rfl (hnf _ _) | exact absurd rfl (hnc _ _ _) | exact absurd rfl (hns _) | simp [binOp, he]
  simp [execOp, ho, hg, hb]

theorem nilKind_val {d : TypeDesc} {y : Operand} {y' : Opd} {k : Nat} (hy : Opd.of y = some y') (h : nilKind d y' = some k) :
    (k = 0 ∧ (∃ e, d = .slice e) ∧ a.eval y = .slice none 0 0) ∨ (k = 1 ∧ (∃ e, d = .pointer e) ∧ a.eval y = .pointer none) ∨ (k = 2 ∧ (∃ p r v, d = .func p r v) ∧ a.eval y = .nilFunc) := by
  unfold nilKind at h
  have key : ∀ {z : DV}, Opd.of y = some (.con z) → ∃ v, a.eval y = v ∧ (constD v = some z ∨ (∃ f, z = .v (.fn f [])) ∨ ∃ c, z = .bptr c 0) := by
    intro z hz
    cases y with
    | tmp t => simp [Opd.of] at hz
    | const v => simp only [Opd.of, Option.map_eq_some_iff, Opd.con.injEq] at hz; obtain ⟨d, hd, rfl⟩ := hz; exact ⟨v, rfl, .inl hd⟩
    | func f => simp only [Opd.of, Option.some.injEq, Opd.con.injEq] at hz; subst hz; exact ⟨_, rfl, .inr (.inl ⟨_, rfl⟩)⟩
    | global g =>
      simp only [Opd.of, Option.map_eq_some_iff, Opd.con.injEq] at hz
      obtain ⟨p, _, rfl⟩ := hz
      exact ⟨_, rfl, .inr (.inr ⟨_, rfl⟩)⟩
  split at h
  · obtain ⟨v, hv, hc | ⟨f, hf⟩ | ⟨f, hf⟩⟩ := key hy
    · unfold constD at hc
      split at hc <;> simp at hc
      exact .inl ⟨by simpa using h.symm, ⟨_, rfl⟩, hv⟩
    · cases hf
    · cases hf
  · obtain ⟨v, hv, hc | ⟨f, hf⟩ | ⟨f, hf⟩⟩ := key hy
    · unfold constD at hc
      split at hc <;> simp at hc
      exact .inr (.inl ⟨by simpa using h.symm, ⟨_, rfl⟩, hv⟩)
    · cases hf
    · cases hf
  · obtain ⟨v, hv, hc | ⟨f, hf⟩ | ⟨f, hf⟩⟩ := key hy
    · unfold constD at hc
      split at hc <;> simp at hc
      exact .inr (.inr ⟨by simpa using h.symm, ⟨_, _, _, rfl⟩, hv⟩)
    · cases hf
    · cases hf
  · cases h

theorem equal_step (d : Nat) (hd : d = 9999) (t : TypeId) (x y : Value) : (Op.equal t x y) = Op.equalIn (d + 1) t x y := by subst hd; rfl
theorem run_eq_slice_nil (t e : TypeId) (p : Option Addr) (n c : Nat) (h : P.underlying t = some (.slice e)) : (Op.equal t (.slice p n c) (.slice none 0 0)).run P w = .ok p.isNone w := by
  obtain ⟨d, hd⟩ : ∃ d, d = 9999 := ⟨_, rfl⟩
  rw [equal_step d hd, Op.equalIn]
  cases p <;> simp [run_underlying h]
theorem run_eq_ptr_nil (t e : TypeId) (p : Option Addr) (h : P.underlying t = some (.pointer e)) : (Op.equal t (.pointer p) (.pointer none)).run P w = .ok p.isNone w := by
  obtain ⟨d, hd⟩ : ∃ d, d = 9999 := ⟨_, rfl⟩
  rw [equal_step d hd, Op.equalIn]
  cases p <;> simp [run_underlying h]
theorem run_eq_fn_nil (t : TypeId) {q1 q2 q3} (v : Value) (r : Bool) (h : P.underlying t = some (.func q1 q2 q3)) (hv : (v = .nilFunc ∧ r = true) ∨ (∃ f b c, v = .func f b c) ∧ r = false) : (Op.equal t v .nilFunc).run P w = .ok r w := by
  obtain ⟨d, hd⟩ : ∃ d, d = 9999 := ⟨_, rfl⟩
  rw [equal_step d hd, Op.equalIn]
  rcases hv with ⟨rfl, rfl⟩ | ⟨⟨f, b, c, rfl⟩, rfl⟩ <;> simp [run_underlying h]

theorem isNil_sound (hO : RelO base W M w0 objs w L) {op : BinOp} {neg : Bool} (hop : op = if neg then .neq else .eql) {t : TypeId} {x y : Operand} {yt : TypeId} (ho : o.op = .binOp op t x y yt) {d : TypeDesc} (hd : P.underlying t = some d) {y' : Opd} (hy : Opd.of y = some y') {k : Nat} (hk : nilKind d y' = some k)
    {d1 : DV} (h1 : RelD w W objs L d1 (a.eval x)) (hok : (isNilSem k neg objs d1).ok) : OpRun P base W M w0 objs L w a o (isNilSem k neg objs d1) := by
  have hv := nilKind_val (a := a) hy hk
  have fin : ∀ {r : Bool}, isNilSem k neg objs d1 = ⟨(isNilSem k neg objs d1).ok, .v (.bool (neg ^^ r)), none⟩ → (execOp a.eval o).run P w = .ok (.value (.bool (neg ^^ r))) w → OpRun P base W M w0 objs L w a o (isNilSem k neg objs d1) := by
    intro r e h
    rw [e]
    exact OpRun.bool hO rfl rfl h
  have sl : ∀ {p : Option Addr} {n c : Nat}, k = 0 → a.eval x = .slice p n c → (execOp a.eval o).run P w = .ok (.value (.bool (neg ^^ p.isNone))) w := by
    intro p n c h0 hx
    rcases hv with ⟨_, ⟨e, rfl⟩, hy'⟩ | ⟨h, _⟩ | ⟨h, _⟩
    · refine run_nil hop ho (by simp [hx]) (by simp [hx]) (by simp [hx]) (by simp [hx]) (by simp [hx]) (by simp [hx]) (by rw [hx, hy']; exact run_eq_slice_nil t e p n c hd) ?_
      rw [hx, hy', hop]; cases neg <;> simp [eqGuard]
    · omega
    · omega
  have pt : ∀ {p : Option Addr}, k = 1 → a.eval x = .pointer p → (execOp a.eval o).run P w = .ok (.value (.bool (neg ^^ p.isNone))) w := by
    intro p h0 hx
    rcases hv with ⟨h, _⟩ | ⟨_, ⟨e, rfl⟩, hy'⟩ | ⟨h, _⟩
    · omega
    · refine run_nil hop ho (by simp [hx]) (by simp [hx]) (by simp [hx]) (by simp [hx]) (by simp [hx]) (by simp [hx]) (by rw [hx, hy']; exact run_eq_ptr_nil t e p hd) ?_
      rw [hx, hy', hop]; cases neg <;> simp [eqGuard]
    · omega
  have fn : ∀ {v : Value} {r : Bool}, k = 2 → a.eval x = v → (v = .nilFunc ∧ r = true) ∨ (∃ f b c, v = .func f b c) ∧ r = false → (execOp a.eval o).run P w = .ok (.value (.bool (neg ^^ r))) w := by
    intro v r h0 hx hvr
    rcases hv with ⟨h, _⟩ | ⟨h, _⟩ | ⟨_, ⟨q1, q2, q3, rfl⟩, hy'⟩
    · omega
    · omega
    · have he := run_eq_fn_nil (w := w) t v r hd hvr
      subst hx
      refine run_nil hop ho ?_ ?_ ?_ ?_ ?_ ?_ (by rw [hy']; exact he) ?_
      all_goals rcases hvr with ⟨hx, rfl⟩ | ⟨⟨f, b, c, hx⟩, rfl⟩ <;> first | (simp [hx]; done) | (rw [hx, hy', hop]; cases neg <;> simp [eqGuard])
  cases d1 with
  | v t' =>
    cases t' with
    | sl rows =>
      simp only [isNilSem] at hok
      obtain ⟨h0, hne⟩ := hok
      simp only [RelD, RelT] at h1
      rcases h1 with ⟨rfl, _⟩ | ⟨b, oo, c, sz, hx, _⟩
      · exact absurd rfl hne
      · exact fin (r := false) rfl (sl h0 hx)
    | fn f caps =>
      cases f with
      | func f => simp only [RelD, RelT] at h1; obtain ⟨vs, hx, _⟩ := h1; exact fin (r := false) rfl (fn hok hx (.inr ⟨⟨_, _, _, rfl⟩, rfl⟩))
      | _ => exact hok.elim
    | box cs => simp only [RelD, RelT] at h1; obtain ⟨b, oo, hx, _⟩ := h1; exact fin (r := false) rfl (pt hok hx)
    | raw v =>
      simp only [RelD, RelT] at h1
      cases v with
      | slice p n c => exact fin (r := p.isNone) rfl (sl hok h1)
      | pointer p => exact fin (r := p.isNone) rfl (pt hok h1)
      | nilFunc => exact fin (r := true) rfl (fn hok h1 (.inl ⟨rfl, rfl⟩))
      | _ => exact hok.elim
    | _ => exact hok.elim
  | ptr r off => simp only [RelD] at h1; exact fin (r := false) rfl (pt hok h1.2)
  | bptr cs off => simp only [RelD] at h1; obtain ⟨b, oo, hx, _⟩ := h1; exact fin (r := false) rfl (pt hok hx)
  | tptr rows i off => simp only [RelD] at h1; obtain ⟨b, oo, sz, hx, _⟩ := h1; exact fin (r := false) rfl (pt hok hx)
  | aptr r ver i off => simp only [RelD] at h1; obtain ⟨⟨b, oo, hx⟩, _⟩ := h1; exact fin (r := false) rfl (pt hok hx)
  | clo f caps =>
    cases f with
    | func f => simp only [RelD] at h1; obtain ⟨vs, hx, _⟩ := h1; exact fin (r := false) rfl (fn hok hx (.inr ⟨⟨_, _, _, rfl⟩, rfl⟩))
    | _ => exact hok.elim
  | aref r ver =>
    cases hc : objs r with
    | none => simp [isNilSem, hc, bad] at hok
    | some ob =>
      cases ob with
      | arr ver' e' sz' rows =>
        have e1 : isNilSem k neg objs (.aref r ver) = ⟨k = 0 ∧ ver = ver' ∧ rows ≠ [], .v (.bool (neg ^^ false)), none⟩ := by simp only [isNilSem, hc]
        rw [e1] at hok
        obtain ⟨h0, rfl, hne⟩ := hok
        simp only [RelD] at h1
        obtain ⟨_, ver2, e2, sz2, rows2, ho2, _, hv2⟩ := h1
        rw [hc] at ho2
        cases ho2
        have hx := hv2 rfl
        obtain ⟨_, _, _, hal⟩ := hO.ob r _ hc
        rcases hal with ⟨rfl, _⟩ | ⟨g, cap, cur, k1, _⟩
        · exact absurd rfl hne
        · exact fin (r := false) (by rw [e1]) (sl h0 (hx.trans k1))
      | _ => simp [isNilSem, hc, bad] at hok
  | _ => exact hok.elim

/-- One step of a loop over a map that stands as it stood when the loop began: any of the entries that have not been handed out; or none is left. -/
theorem next_sound (hO : RelO base W M w0 objs w L) {r m s l c : Nat} {sn : List Nat} {shs : List Sh} {agg : Bool} {es : List (Nat × T × DV)} (hr : objs r = some (.iter m s sn l)) (hm : objs m = some (.map shs agg c es)) (hlt : ∀ e ∈ es, e.1 < s) (hl : s ≤ l) (ty : TypeId) :
    ((∀ e ∈ es, e.1 ∈ sn) ∧ (Instr.next (.pointer (some ⟨L.blk r, 0, none⟩)) false ty).run P w = .ok (.tuple #[.bool false]) w) ∨
    ∃ e ∈ es, e.1 ∉ sn ∧ ∃ k v w', (Instr.next (.pointer (some ⟨L.blk r, 0, none⟩)) false ty).run P w = .ok (.tuple #[.bool true, k, v]) w' ∧
      RelO base W M w0 (putO objs (some (r, .iter m s (sn ++ [e.1]) c))) w' L ∧ Adv W objs L w (putO objs (some (r, .iter m s (sn ++ [e.1]) c))) L w' := by
  obtain ⟨hh, _, hmm⟩ := hO.ob r _ hr
  obtain ⟨arr, hh2, hes, _⟩ := hO.ob m _ hm
  have hg := getObj_run (P := P) hh trivial
  have hg2 := getObj_run (P := P) hh2 trivial
  have hborn : ∀ x ∈ arr.toList, x.born < s := by
    intro x hx
    obtain ⟨i, hi⟩ := List.getElem?_of_mem hx
    have hil : i < es.length := by rw [← RelEs.length hes]; exact (List.getElem?_eq_some_iff.1 hi).1
    obtain ⟨x', hx', hb, _⟩ := RelEs.get hes (List.getElem?_eq_getElem hil)
    rw [hi] at hx'
    cases hx'
    rw [hb]
    exact hlt _ (List.getElem_mem hil)
  have htest : (!(sn.toArray).isEmpty && !arr.isEmpty && arr.all (fun x => decide (x.born ≥ l))) = false := by
    cases he : arr.isEmpty with
    | true => simp
    | false =>
      have hall : arr.all (fun x => decide (x.born ≥ l)) = false := by
        rw [Bool.eq_false_iff]
        intro h
        rw [Array.all_eq_true_iff_forall_mem] at h
        have h0 : 0 < arr.size := by
          rcases Nat.eq_zero_or_pos arr.size with h0 | h0
          · simp [Array.isEmpty, h0] at he
          · exact h0
        have h1 := h _ (Array.getElem_mem h0)
        have h2 := hborn arr[0] (by simp)
        simp at h1
        omega
      simp [hall]
  have hleft : ∀ x, x ∈ arr.filter (fun e => !sn.toArray.contains e.born) ↔ x ∈ arr.toList ∧ x.born ∉ sn := by
    intro x
    simp
  have hmem : ∀ x ∈ (arr.filter (fun e => !sn.toArray.contains e.born)), x.born < s := fun x hx => hborn x ((hleft x).1 hx).1
  simp only [Instr.next, Sem.run_bind, hg, hg2, Result.andThen_ok, htest, Bool.false_eq_true, if_false]
  generalize hL : arr.filter (fun e => !sn.toArray.contains e.born) = A at hleft hmem ⊢
  have e1 : A.filter (fun x => decide (x.born < s)) = A := Array.filter_eq_self.2 (fun x hx => by simpa using hmem x hx)
  have e2 : A.filter (fun x => decide (x.born ≥ s)) = #[] := by
    rw [Array.filter_eq_empty_iff]
    intro x hx
    have := hmem x hx
    simp
    omega
  simp only [e1, e2, Array.append_empty]
  by_cases h0 : A.size = 0
  · left
    have : A = #[] := Array.eq_empty_of_size_eq_zero h0
    subst this
    refine ⟨fun e he => ?_, ?_⟩
    · obtain ⟨i, hi⟩ := List.getElem?_of_mem he
      obtain ⟨x, hx, hb, _⟩ := RelEs.get hes hi
      by_cases h : e.1 ∈ sn
      · exact h
      · have := (hleft x).2 ⟨List.mem_of_getElem? hx, by rw [hb]; exact h⟩
        simp at this
    · simp [choose, Sem.run, Question.forced]
  · right
    have hne : A.isEmpty = false := by simp [Array.isEmpty, h0]
    simp only [hne, Bool.false_eq_true, if_false, Array.empty_append, Array.size_map]
    have hch : ∃ (j : Nat) (w1 : World), j < A.size ∧ (w1 = w ∨ w1 = w.drew) ∧ (choose (Question.mapNext A.size)).run P w = .ok j w1 := by
      by_cases hf : A.size ≤ 1
      · exact ⟨0, w, by omega, .inl rfl, by simp [choose, Sem.run, Question.forced, hf]⟩
      · exact ⟨_, w.drew, Nat.mod_lt _ (by omega), .inr rfl, by
          simp only [choose, Sem.run, Question.forced, decide_eq_true_eq, hf, if_false, Question.cut]
          rfl⟩
    obtain ⟨j, w1, hj, hw1, hrun⟩ := hch
    have hin := (hleft A[j]).1 (Array.getElem_mem hj)
    obtain ⟨i, hi⟩ := List.getElem?_of_mem hin.1
    have hil : i < es.length := by rw [← RelEs.length hes]; exact (List.getElem?_eq_some_iff.1 hi).1
    obtain ⟨x', hx', hb, _⟩ := RelEs.get hes (List.getElem?_eq_getElem hil)
    rw [hi] at hx'
    cases hx'
    have hhe : w1.heap = w.heap := by rcases hw1 with rfl | rfl <;> rfl
    have hh1 : w1.heap[L.blk r]? = some (.mapIter (some (L.blk m)) s sn.toArray l) := by rw [hhe]; exact hh
    have hfr1 : Fr base M w0 w1 := by
      rcases hw1 with rfl | rfl
      · exact hO.fr
      · exact ⟨hO.fr.os, hO.fr.tape, hO.fr.output, hO.fr.size0, hO.fr.size, hO.fr.block, Nat.le_succ_of_le hO.fr.drawn⟩
    refine ⟨es[i], List.getElem_mem hil, by rw [← hb]; exact hin.2, A[j].key, A[j].val, w1.setObj' (L.blk r) (.mapIter (some (L.blk m)) s (sn.toArray.push A[j].born) c), ?_, ?_⟩
    · simp only [hrun, Array.getElem?_map, Array.getElem?_eq_getElem hj, Option.map_some, Sem.run_bind, setObj_run (P := P) hh1 trivial, Result.andThen_ok, Sem.run_pure]
    · rw [hb]
      refine RelO.put hO (fr_setObj _ hfr1 hmm) (by rw [setObj_size, hhe]; exact Nat.le_refl _) (fun _ _ => ⟨rfl, rfl⟩) rfl (fun b _ hb => (setObj_other (fun x => hb _ hr (by simp [Loc.own, x]))).trans (by rw [hhe]))
        (fun b hb => .inl ⟨_, hr, hb⟩) (fun o' ho' _ => by rw [hr] at ho'; cases ho'; exact ⟨rfl, rfl⟩) (fun ver e sz rows h => by rw [hr] at h; cases h) (fun adv => ?_)
      refine ⟨?_, ?_, hmm⟩
      · rw [setObj_heap hh1]; simp
      · have hne : m ≠ r := fun e => by rw [e, hr] at hm; cases hm
        exact ⟨shs, agg, c, es, by simp [putO, hne, hm]⟩
end
end Go.DM
/- The D-machine, part I: one theorem over all operations but calls of Go functions. Conditions: none. -/
namespace Go.DM
open Go.RowKit
set_option linter.unusedSimpArgs false
set_option linter.unusedVariables false
set_option linter.unusedSectionVars false
variable [Laid]
section
variable {P : Program} {base : Nat} {W M : Nat → Prop} {w0 : World} {objs : Obs} {L : Loc} {w : World} {a : Act} {o : Oper} {Γ : Env} {name : Nat} {ρ : Nat → DV} {d : DOp}

theorem tOf_relT {lend : Bool} (W' : Nat → Prop) (hO : RelO base W M w0 objs w L) (hW : lend = true → ∀ r o b, objs r = some o → L.own r o = some b → ¬ W' b) (hW2 : ∀ b, W' b → WW W objs L b) :
    (∀ (d : DV) (x : Value), RelD w W objs L d x → tOk lend objs d → RelT w W' (tOf objs d) x) ∧ (∀ (ds : List DV) (xs : List Value), RelDs w W objs L ds xs → tOks lend objs ds → RelL w W' (tOfs objs ds) xs) := by
  have hk : Keeps (WW W objs L) w w := Keeps.refl _ _
  have one : ∀ (n : Nat), (∀ (d : DV) (x : Value), SizeOf.sizeOf d < n → RelD w W objs L d x → tOk lend objs d → RelT w W' (tOf objs d) x) ∧ (∀ (ds : List DV) (xs : List Value), SizeOf.sizeOf ds < n → RelDs w W objs L ds xs → tOks lend objs ds → RelL w W' (tOfs objs ds) xs) := by
    intro n
    induction n with
    | zero => exact ⟨fun _ _ h => by omega, fun _ _ h => by omega⟩
    | succ n ih =>
      refine ⟨fun d x hn h hok => ?_, fun ds xs hn h hok => ?_⟩
      · cases d with
        | v t => simp only [RelD] at h; simp only [tOf]; exact RelT.keep hk.toKeepsC (fun b _ hb => hW2 b hb) t x h
        | nil0 =>
          simp only [RelD] at h
          obtain ⟨p, rfl⟩ := h
          simp only [tOf, RelT]
          exact .inl ⟨trivial, p, 0, rfl⟩
        | aref r ver =>
          simp only [tOk] at hok
          obtain ⟨hl, hok⟩ := hok
          simp only [RelD] at h
          obtain ⟨_, ver', e, sz, rows, hc, _, hv⟩ := h
          simp only [hc] at hok
          have hv := hv hok
          subst hv
          simp only [tOf, hc, RelT]
          have hob := hO.ob r _ hc
          obtain ⟨hsz, hrows, hm, hal⟩ := hob
          rcases hal with ⟨rfl, p, hp⟩ | ⟨g', cap, cur, hv', hp, hh, hle, hcap, hcur, hrel⟩
          · exact .inl ⟨rfl, p, 0, hp⟩
          · have hcb : capBlock (L.sl r) = some g' := by simp [hv', capBlock, Nat.pos_iff_ne_zero.1 hp]
            refine .inr ⟨g', 0, cap, sz, hv', (Array.getElem?_eq_some_iff.1 hh).1, hW hl r _ g' hc (by simpa [Loc.own] using hcb), hle, ?_⟩
            have hrr := ObOk.rows (hO.ob r _ hc) (g := g') (by simp [hv', capBlock, Nat.pos_iff_ne_zero.1 hp])
            by_cases hg : g' < w.heap.size
            · obtain ⟨vs, hvl, hvr, hvc⟩ := RelRows.flatten hrr
              exact RelRows.of_flatten (RelL.keep hk.toKeepsC (fun b _ hb => hW2 b hb) _ _ hvr) hrows hvc
            · exact absurd (Array.getElem?_eq_some_iff.1 hh).1 hg
        | agg cs =>
          simp only [RelD] at h
          obtain ⟨vs, rfl, hr⟩ := h
          simp only [tOf, RelT]
          simp only [tOk] at hok
          exact ⟨vs, rfl, ih.2 cs _ (by simp at hn ⊢; omega) hr hok⟩
        | clo f cs =>
          simp only [RelD] at h
          obtain ⟨vs, rfl, hr⟩ := h
          simp only [tOf, RelT]
          simp only [tOk] at hok
          exact ⟨vs, rfl, ih.2 cs _ (by simp at hn ⊢; omega) hr hok⟩
        | asl r ver lo m =>
          simp only [tOk] at hok
          obtain ⟨hl, hok⟩ := hok
          simp only [RelD] at h
          obtain ⟨_, ver', e, sz, rows, hc, _, hv⟩ := h
          simp only [hc] at hok
          have hv := hv hok.1
          simp only [tOf, hc, RelT]
          have htl : ((rows.drop lo).take m).length = m := by rw [List.length_take, List.length_drop]; omega
          rcases asl_rows hO hc hv with ⟨rfl, a, c, rfl⟩ | ⟨g, c, hcb, rfl, hnc, hr⟩
          · exact .inl ⟨by simp, a, c, rfl⟩
          · refine .inr ⟨g, lo * sz, c, sz, by rw [htl], (hO.ob r _ hc).lt (by simpa [Loc.own] using hcb), hW hl r _ g hc (by simpa [Loc.own] using hcb), by omega, ?_⟩
            obtain ⟨vs, hvl, hvr, hvc⟩ := RelRows.flatten hr
            exact RelRows.of_flatten (RelL.keep hk.toKeepsC (fun b _ hb => hW2 b hb) _ _ hvr) (fun x hx => (hO.ob r _ hc).2.1 x (List.mem_of_mem_drop (List.mem_of_mem_take hx))) hvc
        | _ => exact hok.elim
      · cases ds with
        | nil => simpa [RelDs, RelL, tOfs] using h
        | cons d ds =>
          simp only [RelDs] at h
          obtain ⟨x, xs', rfl, h1, h2, hr⟩ := h
          simp only [tOks] at hok
          simp only [tOfs, RelL]
          exact ⟨x, xs', rfl, h1, ih.1 d x (by simp at hn ⊢; omega) h2 hok.1, ih.2 ds xs' (by simp at hn ⊢; omega) hr hok.2⟩
  exact ⟨fun d x => (one (SizeOf.sizeOf d + 1)).1 d x (by omega), fun ds xs => (one (SizeOf.sizeOf ds + 1)).2 ds xs (by omega)⟩

theorem eqSem_leaf {neg agg : Bool} {shs : List Sh} {t u : T} (h : ¬ ((∃ as, t = .agg as) ∧ ∃ bs, u = .agg bs)) : eqSem neg agg shs t u = ⟨agg = false ∧ fitsT shs [t] ∧ fitsT shs [u], .v (.bool (neg ^^ eqTB t u)), none⟩ := by
  cases t <;> first | rfl | (cases u <;> first | rfl | exact absurd ⟨⟨_, rfl⟩, ⟨_, rfl⟩⟩ h)

theorem sh_leaf {n : Nat} {t : TypeId} {s : Sh} {desc : TypeDesc} (hs : shOf P (n + 1) t = some [s]) (hd : P.underlying t = some desc) (ha : aggDesc desc = false) : (s = .bool ∧ desc = .bool) ∨ (s = .str ∧ desc = .string) ∨ ∃ k, s = .int k ∧ desc = .int k := by
  simp only [shOf, hd] at hs
  cases desc
  case bool => simp at hs; exact .inl ⟨hs.symm, rfl⟩
  case int k => simp at hs; exact .inr (.inr ⟨k, hs.symm, rfl⟩)
  case string => simp at hs; exact .inr (.inl ⟨hs.symm, rfl⟩)
  case struct => exact absurd ha (by simp [aggDesc])
  case array => exact absurd ha (by simp [aggDesc])
  all_goals exact absurd hs (by simp)

theorem eq_sound {op : BinOp} {t : TypeId} {x y : Operand} {yt : TypeId} {neg : Bool} (hop : op = if neg then .neq else .eql) (ho : o.op = .binOp op t x y yt) {desc : TypeDesc} (hd : P.underlying t = some desc) (hnint : ∀ k, desc ≠ .int k) {shs : List Sh} (hs : shOf P 10000 t = some shs) (hg : P.eqGuardType P.depth t = false)
    (hO : RelO base W M w0 objs w L) {d1 d2 : DV} (h1 : RelD w W objs L d1 (a.eval x)) (h2 : RelD w W objs L d2 (a.eval y)) (k1 : tOk true objs d1) (k2 : tOk true objs d2) (hok : (eqSem neg (aggDesc desc) shs (tOf objs d1) (tOf objs d2)).ok) :
    OpRun P base W M w0 objs L w a o ⟨True, (eqSem neg (aggDesc desc) shs (tOf objs d1) (tOf objs d2)).val, none⟩ := by
  have r1 := (tOf_relT (lend := true) (fun _ => False) hO (fun _ _ _ _ _ _ h => h) (fun _ h => h.elim)).1 d1 _ h1 k1
  have r2 := (tOf_relT (lend := true) (fun _ => False) hO (fun _ _ _ _ _ _ h => h) (fun _ h => h.elim)).1 d2 _ h2 k2
  by_cases hagg : (∃ as, tOf objs d1 = .agg as) ∧ ∃ bs, tOf objs d2 = .agg bs
  · obtain ⟨⟨as, t1⟩, bs, t2⟩ := hagg
    simp only [t1, t2, eqSem] at hok ⊢
    obtain ⟨ha, f1, f2⟩ := hok
    rw [t1] at r1
    rw [t2] at r2
    simp only [RelT] at r1 r2
    obtain ⟨xs, e1, g1⟩ := r1
    obtain ⟨ys, e2, g2⟩ := r2
    have hq : (Op.equal t (.agg xs) (.agg ys)).run P w = .ok (eqTBs as bs) w := by
      have := equalIn_sh 10000 t shs desc hs hd xs.toList ys.toList w (fits_of_fitsT f1 g1) (fits_of_fitsT f2 g2)
      simp only [mkV, ha, if_true, Array.toArray_toList] at this
      rw [eqTs_leaf f1 f2 g1 g2]
      exact this
    have hguard := run_eqGuard_agg w op t x y xs ys hg
    refine OpRun.bool hO rfl rfl ?_
    subst hop
    cases neg <;> simp only [if_true, if_false, Bool.false_eq_true] at ho hguard <;> simp [execOp, ho, e1, e2, hguard, binOp, hq]
  · rw [eqSem_leaf hagg] at hok ⊢
    obtain ⟨ha, f1, f2⟩ := hok
    obtain ⟨s, rfl, g1⟩ := fitsT_one f1
    obtain ⟨s2, hs2, g2⟩ := fitsT_one f2
    obtain rfl : s = s2 := by simpa using hs2
    refine OpRun.bool hO rfl rfl ?_
    rw [eqT_leaf g1 g2 r1 r2]
    subst hop
    cases s with
    | bool =>
      have hdb : P.underlying t = some .bool := by
        rcases sh_leaf (n := 9999) hs hd ha with ⟨_, rfl⟩ | ⟨h, _⟩ | ⟨k, h, _⟩
        · exact hd
        · cases h
        · cases h
      cases h1' : tOf objs d1 <;> rw [h1'] at g1 r1 <;> first | exact absurd g1 Bool.false_ne_true | skip
      cases h2' : tOf objs d2 <;> rw [h2'] at g2 r2 <;> first | exact absurd g2 Bool.false_ne_true | skip
      simp only [RelT] at r1 r2
      cases neg <;> simp [execOp, ho, r1, r2, eqGuard, run_eql_bool, run_neq_bool, hdb, veq]
    | str =>
      cases h1' : tOf objs d1 <;> rw [h1'] at g1 r1 <;> first | exact absurd g1 Bool.false_ne_true | skip
      cases h2' : tOf objs d2 <;> rw [h2'] at g2 r2 <;> first | exact absurd g2 Bool.false_ne_true | skip
      simp only [RelT] at r1 r2
      cases neg <;> simp [execOp, ho, r1, r2, eqGuard, binOp, Op.stringOp, veq, beq_toListBytes]
    | int k =>
      rcases sh_leaf (n := 9999) hs hd ha with ⟨h, _⟩ | ⟨h, _⟩ | ⟨k', _, h⟩
      · cases h
      · cases h
      · exact absurd h (hnint k')

theorem bslice_rows {W' : Nat → Prop} {sz : Nat} : ∀ (n : Nat) (cs : List T) (vs : List Value) (b o : Nat), cs.length = n * sz → RelL w W' cs vs → (∀ j v, vs[j]? = some v → w.cell? ⟨b, o + j, none⟩ = some v) → RelRows w W' sz b o (chunk sz n cs)
  | 0, _, _, _, _, _, _, _ => by simp [chunk, RelRows]
  | n + 1, cs, vs, b, o, hl, hr, hc => by
    have hsz : sz ≤ cs.length := by rw [hl, Nat.add_mul]; omega
    have hvl := RelL.length hr
    simp only [chunk, RelRows]
    refine ⟨by simp; omega, ?_, ?_⟩
    · refine RelAt.of_relL (RelL.take sz hr) fun j v hj => hc j v ?_
      rw [List.getElem?_take] at hj
      split at hj
      · exact hj
      · cases hj
    · refine bslice_rows n _ (vs.drop sz) b (o + sz) (by rw [List.length_drop, hl, Nat.add_mul]; omega) (RelL.drop sz hr) fun j v hj => ?_
      rw [List.getElem?_drop] at hj
      have := hc (sz + j) v hj
      rwa [show o + sz + j = o + (sz + j) by omega]
theorem chunk_length (sz : Nat) : ∀ (n : Nat) (cs : List T), (chunk sz n cs).length = n
  | 0, _ => rfl
  | n + 1, cs => by simp [chunk, chunk_length sz n]

theorem fillD_length : ∀ (ps : List (Nat × Nat × DV)) (ds : List DV), fillOk ds.length ps → (fillD ds ps).length = ds.length
  | [], ds, _ => rfl
  | (off, sz, d) :: ps, ds, h => by
    simp only [fillOk] at h
    obtain ⟨h1, h2, h3, h4⟩ := h
    have hl : (splice ds off (cellsOf d)).length = ds.length := length_splice (by omega)
    simp only [fillD]
    rw [fillD_length ps _ (by rw [hl]; exact h4), hl]

theorem mapM_of_rel (hg : GOk w (WW W objs L)) (hρ : ∀ t, RelD w W objs L (ρ t) (a.tmps.getD t Go.undef)) : ∀ {xs : List Operand} {ys : List Opd}, xs.mapM Opd.of = some ys → ∀ (i : Nat) (x : Operand) (y : Opd), xs[i]? = some x → ys[i]? = some y → RelD w W objs L (y.ev ρ) (a.eval x)
  | [], ys, h, i, x, y, hx, _ => by simp at hx
  | x :: xs, ys, h, i, p, q, hp, hq => by
    simp only [List.mapM_cons, Option.pure_def, Option.bind_eq_bind, Option.bind_eq_some_iff, Option.some.injEq] at h
    obtain ⟨y, hy, ys', hys, rfl⟩ := h
    cases i with
    | zero =>
      simp only [List.getElem?_cons_zero, Option.some.injEq] at hp hq
      subst hp hq
      exact Opd.of_rel hg hρ hy
    | succ i => exact mapM_of_rel hg hρ hys i p q (by simpa using hp) (by simpa using hq)
theorem mapM_of_length : ∀ {xs : List Operand} {ys : List Opd}, xs.mapM Opd.of = some ys → ys.length = xs.length
  | [], ys, h => by simp at h; simp [h]
  | x :: xs, ys, h => by
    simp only [List.mapM_cons, Option.pure_def, Option.bind_eq_bind, Option.bind_eq_some_iff, Option.some.injEq] at h
    obtain ⟨y, hy, ys', hys, rfl⟩ := h
    simp [mapM_of_length hys]

theorem optOpd_rel (hg : GOk w (WW W objs L)) (hρ : ∀ t, RelD w W objs L (ρ t) (a.tmps.getD t Go.undef)) {x : Option Operand} {y : Option Opd} (h : optOpd x = some y) : (y.map (·.ev ρ) = none ∧ x.map a.eval = none) ∨ ∃ dl vl, y.map (·.ev ρ) = some dl ∧ x.map a.eval = some vl ∧ RelD w W objs L dl vl := by
  cases x with
  | none => simp only [optOpd, Option.some.injEq] at h; subst h; exact .inl ⟨rfl, rfl⟩
  | some x =>
    simp only [optOpd, Option.map_eq_some_iff] at h
    obtain ⟨z, hz, rfl⟩ := h
    exact .inr ⟨_, _, rfl, rfl, Opd.of_rel hg hρ hz⟩

theorem pure_one {d : DV} {v : Value} (hp : pureCell d) (h : RelD w W objs L d v) : v.oneCell' = true := by
  cases d with
  | nil0 => simp only [RelD] at h; obtain ⟨p, rfl⟩ := h; rfl
  | v t =>
    simp only [RelD] at h
    cases t with
    | agg ts => exact absurd hp Bool.false_ne_true
    | tup ts => exact absurd hp Bool.false_ne_true
    | raw x => simp only [RelT] at h; subst h; exact hp
    | sl rows => simp only [RelT] at h; rcases h with ⟨_, _, _, rfl⟩ | ⟨_, _, _, _, rfl, _⟩ <;> rfl
    | fn f caps => simp only [RelT] at h; obtain ⟨_, rfl, _⟩ := h; rfl
    | box cs => simp only [RelT] at h; obtain ⟨_, _, rfl, _⟩ := h; rfl
    | bool b => simp only [RelT] at h; subst h; rfl
    | int k n => simp only [RelT] at h; subst h; rfl
    | str k => simp only [RelT] at h; subst h; rfl
  | _ => exact hp.elim
theorem cell_one {d : DV} {v : Value} (hp : cellable d) (h : RelD w W objs L d v) : v.oneCell' = true := by
  cases d with
  | undef => exact hp.elim
  | skip => exact hp.elim
  | agg cs => exact hp.elim
  | tup cs => exact hp.elim
  | v t => exact pure_one (d := .v t) hp h
  | nil0 => simp only [RelD] at h; obtain ⟨p, rfl⟩ := h; rfl
  | ptr r off => simp only [RelD] at h; obtain ⟨_, rfl⟩ := h; rfl
  | aref r ver => simp only [RelD] at h; obtain ⟨⟨_, _, _, rfl⟩, _⟩ := h; rfl
  | tptr rows i off => simp only [RelD] at h; obtain ⟨_, _, _, rfl, _⟩ := h; rfl
  | bptr cs off => simp only [RelD] at h; obtain ⟨_, _, rfl, _⟩ := h; rfl
  | aptr r ver i off => simp only [RelD] at h; obtain ⟨⟨_, _, rfl⟩, _⟩ := h; rfl
  | yld => simp only [RelD] at h; subst h; rfl
  | mref r => simp only [RelD] at h; obtain ⟨_, rfl⟩ := h; rfl
  | iter r => simp only [RelD] at h; obtain ⟨_, rfl⟩ := h; rfl
  | asl r ver lo n => simp only [RelD] at h; obtain ⟨⟨_, _, rfl⟩, _⟩ := h; rfl
  | bsl r n => simp only [RelD] at h; obtain ⟨_, rfl⟩ := h; rfl
  | clo f cs => simp only [RelD] at h; obtain ⟨_, rfl, _⟩ := h; rfl
theorem opds_relC (hg : GOk w (WW W objs L)) (hρ : ∀ t, RelD w W objs L (ρ t) (a.tmps.getD t Go.undef)) : ∀ {xs : List Operand} {ys : List Opd}, xs.mapM Opd.of = some ys → cellables (ys.map (·.ev ρ)) → RelDs w W objs L (ys.map (·.ev ρ)) (xs.map a.eval)
  | [], ys, h, _ => by simp at h; subst h; simp [RelDs]
  | x :: xs, ys, h, hp => by
    simp only [List.mapM_cons, Option.pure_def, Option.bind_eq_bind, Option.bind_eq_some_iff, Option.some.injEq] at h
    obtain ⟨y, hy, ys', hys, rfl⟩ := h
    simp only [List.map_cons, cellables] at hp
    simp only [List.map_cons, RelDs]
    have r := Opd.of_rel hg hρ hy
    exact ⟨_, _, rfl, cell_one hp.1 r, r, opds_relC hg hρ hys hp.2⟩
theorem pureB_iff : ∀ {ds : List DV}, pureB ds = true → pureCells ds
  | [], _ => trivial
  | d :: ds, h => by
    cases d with
    | v t => simp only [pureB, Bool.and_eq_true] at h; exact ⟨h.1, pureB_iff h.2⟩
    | nil0 => simp only [pureB] at h; exact ⟨trivial, pureB_iff h⟩
    | _ => simp [pureB] at h
/-- Every operation that is no call of a Go function. -/
theorem op_sound (hc : compileOp P o = some d) (hcall : ∀ f args, d ≠ .call f args) (hρ : ∀ t, RelD w W objs L (ρ t) (a.tmps.getD t Go.undef)) (hO : RelO base W M w0 objs w L) (hname : objs name = none) (hok : (sem Γ d name ρ objs).ok) :
    OpRun P base W M w0 objs L w a o (sem Γ d name ρ objs) := by
  unfold compileOp at hc
  cases ho : o.op <;> simp only [ho, reduceCtorEq] at hc
  case move x =>
    simp only [Option.map_eq_some_iff] at hc
    obtain ⟨y, hy, rfl⟩ := hc
    exact OpRun.quiet hO rfl (v := a.eval x) (by simp [execOp, ho]) (Opd.of_rel hO.gl hρ hy)
  case assign x =>
    simp only [Option.map_eq_some_iff] at hc
    obtain ⟨y, hy, rfl⟩ := hc
    exact OpRun.quiet hO rfl (v := a.eval x) (by simp [execOp, ho]) (Opd.of_rel hO.gl hρ hy)
  case pick c x y =>
    simp only [Option.pure_def, Option.bind_eq_bind, Option.bind_eq_some_iff, Option.some.injEq] at hc
    obtain ⟨c', hc', x', hx, y', hy, rfl⟩ := hc
    have r := Opd.of_rel hO.gl hρ hc'
    unfold sem at hok ⊢
    simp only at hok ⊢
    split at hok
    · rename_i t ht
      rw [ht] at r
      simp only [RelD, RelT] at r
      refine OpRun.quiet hO rfl (v := if t then a.eval x else a.eval y) (by simp [execOp, ho, r, asBool]) ?_
      cases t
      · exact Opd.of_rel hO.gl hρ hy
      · exact Opd.of_rel hO.gl hρ hx
    · exact hok.elim
  case alloc e =>
    simp only [Option.pure_def, Option.bind_eq_bind, Option.bind_eq_some_iff, Option.some.injEq] at hc
    obtain ⟨i, hi, z, hz, zs, hzs, rfl⟩ := hc
    have h := new_box hO hname e (mapM_constD_rel hzs)
    refine ⟨_, .pointer (some ⟨w.heap.size, 0, none⟩), _, _, ?_, .inl rfl, h.1, h.2, ?_⟩
    · simp [execOp, ho, Instr.alloc, zeroValue, typeInfo, hi, hz, newVar, newRow]
    · simp only [sem, RelD]
      exact ⟨⟨zs, by simp [putO]⟩, by simp [Loc.setBlk]⟩
  case box e x =>
    simp only [Option.map_eq_some_iff] at hc
    obtain ⟨y, hy, rfl⟩ := hc
    have h := new_box hO hname e (RelD.cells (Opd.of_rel hO.gl hρ hy) hok)
    refine ⟨_, .pointer (some ⟨w.heap.size, 0, none⟩), _, _, ?_, .inl rfl, h.1, h.2, ?_⟩
    · simp [execOp, ho, Instr.box, newVar, newRow]
    · simp only [sem, RelD]
      exact ⟨⟨cellsOf (y.ev ρ), by simp [putO]⟩, by simp [Loc.setBlk]⟩
  case build t parts =>
    simp only [Option.pure_def, Option.bind_eq_bind, Option.bind_eq_some_iff, Option.some.injEq] at hc
    obtain ⟨i, hi, z, hz, zs, hzs, pl, hpl, ps, hps, rfl⟩ := hc
    have hzr := mapM_constD_rel (w := w) (W := W) (objs := objs) (L := L) hzs
    have hzl := RelDs.length hzr
    simp only [Array.length_toList] at hzl
    simp only [sem] at hok ⊢
    obtain ⟨cells, h1, h2, h3⟩ := fill_rel hO.gl hρ parts.toList ps hps z.cells zs hzr (by rw [hzl]; exact hok)
    have hb : P.built t (parts.map fun x => (x.1, a.eval x.2)).toList = some cells := by
      unfold Program.built
      unfold places at hpl
      cases hu : P.underlying t with
      | none => simp [hu] at hpl
      | some desc =>
        cases desc <;> simp only [hu, reduceCtorEq] at hpl
        case array n e =>
          simp only [Option.map_eq_some_iff] at hpl
          obtain ⟨ie, hie, rfl⟩ := hpl
          simpa [hi, hz, hie] using h1
        case struct fields =>
          simp only [Option.map_eq_some_iff] at hpl
          obtain ⟨pl', hpl', rfl⟩ := hpl
          simp only [hi, hz, hpl', Array.toList_map]
          simpa using h1
    refine OpRun.quiet hO rfl (v := .agg cells) ?_ (by simp only [RelD]; exact ⟨cells, rfl, h2⟩)
    have := run_build w t (parts.map fun x => (x.1, a.eval x.2)) cells hb
    simp [execOp, ho, this]
  case buildSlice t len parts =>
    split at hc
    · rename_i e hu
      simp only [Option.pure_def, Option.bind_eq_bind, Option.bind_eq_some_iff] at hc
      obtain ⟨i, hi, hc⟩ := hc
      split at hc
      · cases hc
      · rename_i hsz
        simp only [Option.bind_eq_some_iff, Option.some.injEq] at hc
        obtain ⟨z, hz, zs, hzs, ps, hps, rfl⟩ := hc
        have hzr := mapM_constD_rel (w := w) (W := W) (objs := objs) (L := L) hzs
        have hzl := RelDs.length hzr
        have hlen : ¬ len * i.size > 2 ^ 24 := fun h => hsz (.inl h)
        have hpos : i.size ≠ 0 := fun h => hsz (.inr h)
        simp only [Array.length_toList, Array.size_map, Array.size_range] at hzl
        simp only [sem] at hok ⊢
        by_cases h0 : len = 0
        · subst h0
          simp only [if_true] at hok ⊢
          subst hok
          have hp0 : parts.toList = [] := by
            cases hp : parts.toList with
            | nil => rfl
            | cons p ps' =>
              rw [hp] at hps
              simp only [ofParts, List.mapM_cons, Option.pure_def, Option.bind_eq_bind, Option.bind_eq_some_iff, Option.some.injEq, reduceCtorEq, and_false, exists_false] at hps
          have hp1 : parts = #[] := by cases parts; simp_all
          have hr := run_buildSlice (P := P) w hu hi hz 0 (by simp) (parts := #[]) (cells := #[]) (by simp [Instr.fill, Array.range_zero'])
          have hg := RelO.grow hO (below_alloc (w := w) (.cells #[] e))
          refine ⟨_, .slice (some ⟨w.heap.size, 0, none⟩) 0 0, _, L, ?_, .inl rfl, hg.1, hg.2, by simp only [RelD]; exact ⟨_, rfl⟩⟩
          simp [execOp, ho, hp1, hr]
        · simp only [h0, if_false] at hok ⊢
          obtain ⟨hf, hpure⟩ := hok
          obtain ⟨cells, h1, h2, h3⟩ := fill_rel hO.gl hρ parts.toList ps hps _ zs hzr (by simpa using hf)
          have hr := run_buildSlice (P := P) w hu hi hz len hlen (parts := parts.map fun x => (x.1, a.eval x.2)) (cells := cells) (by simpa using h1)
          have hg := RelO.grow hO (below_alloc (w := w) (.cells cells e))
          refine ⟨_, .slice (some ⟨w.heap.size, 0, none⟩) len len, _, L, ?_, .inl rfl, hg.1, hg.2, ?_⟩
          · simp [execOp, ho, hr]
          · have hl2 := relL_of_pure (objs2 := fun _ => none) hpure (RelDs.adv hg.2 _ _ h2)
            simp only [putO, RelD, RelT, chunk_length]
            refine .inr ⟨w.heap.size, 0, len, i.size, rfl, by simp, ?_, Nat.le_refl _, ?_⟩
            · rintro (hw | ⟨r, ob, hr1, hr2⟩)
              · have h1 := hO.under _ hw
                have h2 := hO.fr.size0
                have h3 := hO.fr.size
                omega
              · have := (hO.ob r ob hr1).lt hr2
                omega
            · refine bslice_rows len _ cells.toList _ _ ?_ hl2 fun j v hj => ?_
              · rw [tOfs_length, fillD_length _ _ (by rw [← hzl]; exact hf), ← hzl]
              · rw [Nat.zero_add, cell_of_row (w.alloc (.cells cells e)) w.heap.size j cells e (0, 0) (heap_alloc_new w _)]
                simpa using hj
    · cases hc
  case load t x =>
    split at hc
    · rename_i desc i hd hi
      simp only [Option.map_eq_some_iff] at hc
      obtain ⟨y, hy, rfl⟩ := hc
      simp only [sem] at hok ⊢
      obtain ⟨hp, v, hrun, hv⟩ := load_sound hO hd hi (Opd.of_rel hO.gl hρ hy) hok
      exact OpRun.quiet hO hp (v := v) (by simp [execOp, ho, hrun]) hv
    · cases hc
  case store t x y =>
    simp only [Option.pure_def, Option.bind_eq_bind, Option.bind_eq_some_iff, Option.some.injEq] at hc
    obtain ⟨i, hi, x', hx, y', hy, rfl⟩ := hc
    have rx := Opd.of_rel hO.gl hρ hx
    have ry := Opd.of_rel hO.gl hρ hy
    simp only [sem] at hok ⊢
    cases hd : x'.ev ρ with
    | ptr r off =>
      rw [hd] at rx
      simp only [RelD] at rx
      obtain ⟨⟨cs, hcs⟩, hxv⟩ := rx
      simp only [hd, storeSem, hcs] at hok ⊢
      obtain ⟨w', h1, h2, h3⟩ := store_box hO hi hcs ry hok.1 hok.2.1 hok.2.2
      exact ⟨.skip, Go.undef, w', L, by simp [execOp, ho, hxv, h1], .inr ⟨rfl, rfl⟩, h2, h3, by simp [RelD]⟩
    | aptr r ver j off =>
      rw [hd] at rx
      simp only [RelD] at rx
      obtain ⟨_, ver', e, sz, rows, hcs, _, hx2⟩ := rx
      simp only [hd, storeSem, hcs] at hok ⊢
      obtain ⟨rfl, hn, hfit, hpure⟩ := hok
      obtain ⟨g, hg, hxv, h0, h1⟩ := hx2 rfl
      obtain ⟨w', h1, h2, h3⟩ := store_arr hO hi hcs hg h0 h1 ry hn hfit hpure
      exact ⟨.skip, Go.undef, w', L, by simp [execOp, ho, hxv, h1], .inr ⟨rfl, rfl⟩, h2, h3, by simp [RelD]⟩
    | _ => rw [hd] at hok; exact hok.elim
  case nilCheck x =>
    simp only [Option.map_eq_some_iff] at hc
    obtain ⟨y, hy, rfl⟩ := hc
    have rx := Opd.of_rel hO.gl hρ hy
    simp only [sem] at hok ⊢
    obtain ⟨h1, h2, h3⟩ := nilCheck_sound rx hok
    refine OpRun.quiet hO h1 (v := a.eval x) ?_ (by rw [h2]; exact rx)
    rcases h3 with ⟨p, hp⟩ | ⟨f, caps, hp⟩
    · simp only [execOp, ho, hp]; simp
    · simp only [execOp, ho, hp]; simp
  case binOp op t x y yt =>
    simp only [Option.bind_eq_bind, Option.bind_eq_some_iff] at hc
    obtain ⟨x', hx, y', hy, hc⟩ := hc
    have rx := Opd.of_rel hO.gl hρ hx
    have ry := Opd.of_rel hO.gl hρ hy
    unfold compileBin at hc
    split at hc
    · split at hc
      all_goals first
        | (simp only [Option.some.injEq] at hc; subst hc; exact bin_sound hO ho rx ry hok)
        | cases hc
    · rename_i desc hnint hd
      split at hc
      · rename_i shs hs
        split at hc
        · cases hc
        · rename_i hg
          simp only [Option.some.injEq] at hc
          subst hc
          simp only [sem] at hok ⊢
          obtain ⟨k1, k2, hok⟩ := hok
          exact eq_sound (neg := false) rfl ho hd (fun k hk => hnint k hk) hs (by simpa using hg) hO rx ry k1 k2 hok
      · rename_i shs hs
        split at hc
        · cases hc
        · rename_i hg
          simp only [Option.some.injEq] at hc
          subst hc
          simp only [sem] at hok ⊢
          obtain ⟨k1, k2, hok⟩ := hok
          exact eq_sound (neg := true) rfl ho hd (fun k hk => hnint k hk) hs (by simpa using hg) hO rx ry k1 k2 hok
      · simp only [Option.map_eq_some_iff] at hc
        obtain ⟨k, hk, rfl⟩ := hc
        exact isNil_sound (neg := false) hO rfl ho hd hy hk rx hok
      · simp only [Option.map_eq_some_iff] at hc
        obtain ⟨k, hk, rfl⟩ := hc
        exact isNil_sound (neg := true) hO rfl ho hd hy hk rx hok
      · cases hc
    · cases hc
  case makeMap t hint =>
    cases hint with
    | some h => cases hc
    | none =>
      simp only at hc
      split at hc
      · simp only [Option.map_eq_some_iff] at hc
        obtain ⟨ki, _, rfl⟩ := hc
        exact mkMap_sound hO hname ho _ _
      · cases hc
  case lookup t x k ok =>
    split at hc
    · rename_i kt et ht
      split at hc
      · rename_i ki z hki hz
        simp only [Option.pure_def, Option.bind_eq_bind, Option.bind_eq_some_iff, Option.some.injEq] at hc
        obtain ⟨x', hx, k', hk, rfl⟩ := hc
        exact lookup_sound hO ho ht hki hz (Opd.of_rel hO.gl hρ hx) (Opd.of_rel hO.gl hρ hk) hok
      · cases hc
    · cases hc
  case mapUpdate t x k y =>
    split at hc
    · rename_i kt et ht
      split at hc
      · rename_i ki hki
        simp only [Option.pure_def, Option.bind_eq_bind, Option.bind_eq_some_iff, Option.some.injEq] at hc
        obtain ⟨x', hx, k', hk, y', hy, rfl⟩ := hc
        exact mapUpd_sound hO ho ht hki (Opd.of_rel hO.gl hρ hx) (Opd.of_rel hO.gl hρ hk) (Opd.of_rel hO.gl hρ hy) hok
      · cases hc
    · cases hc
  case mapEntry t x k =>
    split at hc
    · rename_i kt et ht
      split at hc
      · rename_i ki z hki hz
        simp only [Option.pure_def, Option.bind_eq_bind, Option.bind_eq_some_iff, Option.some.injEq] at hc
        obtain ⟨x', hx, k', hk, rfl⟩ := hc
        exact mapEnt_sound hO ho ht hki hz (Opd.of_rel hO.gl hρ hx) (Opd.of_rel hO.gl hρ hk) hok
      · cases hc
    · cases hc
  case entryStore t x s y =>
    simp only [Option.pure_def, Option.bind_eq_bind, Option.bind_eq_some_iff, Option.some.injEq] at hc
    obtain ⟨x', hx, k', hk, y', hy, rfl⟩ := hc
    exact entSt_sound hO ho (Opd.of_rel hO.gl hρ hx) (Opd.of_rel hO.gl hρ hk) (Opd.of_rel hO.gl hρ hy) hok
  case range t x =>
    split at hc
    · rename_i kt et ht
      simp only [Option.map_eq_some_iff] at hc
      obtain ⟨x', hx, rfl⟩ := hc
      exact rangeM_sound hO hname ho ht (Opd.of_rel hO.gl hρ hx) hok
    · cases hc
  case entry x =>
    simp only [Option.map_eq_some_iff] at hc
    obtain ⟨x', hx, rfl⟩ := hc
    exact hok.elim
  case index t x i =>
    split at hc
    · rename_i ht
      simp only [Option.pure_def, Option.bind_eq_bind, Option.bind_eq_some_iff, Option.some.injEq] at hc
      obtain ⟨x', hx, i', hi, rfl⟩ := hc
      exact indexS_sound hO ho ht (Opd.of_rel hO.gl hρ hx) (Opd.of_rel hO.gl hρ hi) hok
    · cases hc
  case panic x => simp only [Option.some.injEq] at hc; subst hc; exact hok.elim
  case makeInterface _ _ => simp only [Option.some.injEq] at hc; subst hc; exact hok.elim
  case unOp op t x =>
    simp only [Option.map_eq_some_iff] at hc
    obtain ⟨y, hy, rfl⟩ := hc
    have rx := Opd.of_rel hO.gl hρ hy
    unfold sem unSem at hok ⊢
    simp only at hok ⊢
    split at hok
    · rename_i b hb
      rw [hb] at rx
      simp only [RelD, RelT] at rx
      split at hok
      · exact OpRun.bool hO rfl rfl (by simp [execOp, ho, rx, Op.unary])
      · exact hok.elim
    · rename_i k n hb
      rw [hb] at rx
      simp only [RelD, RelT] at rx
      split at hok
      · exact OpRun.int hO rfl rfl (by simp [execOp, ho, rx, Op.unary, Op.intArith])
      · exact hok.elim
    · exact hok.elim
  case convert src dst x =>
    split at hc
    · rename_i k0 k hs hd
      simp only [Option.map_eq_some_iff] at hc
      obtain ⟨y, hy, rfl⟩ := hc
      have rx := Opd.of_rel hO.gl hρ hy
      unfold sem at hok ⊢
      simp only at hok ⊢
      split at hok
      · rename_i k1 n hb
        rw [hb] at rx
        simp only [RelD, RelT] at rx
        exact OpRun.int hO rfl rfl (by simp [execOp, ho, rx, convert, run_underlying hs, run_underlying hd, Conv.intToInt])
      · exact hok.elim
    · cases hc
  case fieldAddr s x f =>
    split at hc
    · rename_i fs hs
      split at hc
      · rename_i fd hf
        split at hc
        · rename_i fi hi
          split at hc
          · cases hc
          · rename_i hsz
            simp only [Option.map_eq_some_iff] at hc
            obtain ⟨y, hy, rfl⟩ := hc
            have rx := Opd.of_rel hO.gl hρ hy
            simp only [sem] at hok ⊢
            obtain ⟨hp, b, oo, hxv, hv⟩ := addOff_sound rx hok
            refine OpRun.quiet hO hp (v := .pointer (some ⟨b, oo + fd.offset, none⟩)) ?_ hv
            simp [execOp, ho, hxv, Instr.fieldAt, run_underlying hs, hf, Instr.sureAddr, fieldPlace, run_sizeOf hi, hsz, add_off]
        · cases hc
      · cases hc
    · cases hc
  case field s x f =>
    split at hc
    · rename_i fs hs
      split at hc
      · rename_i fd hf
        split at hc
        · rename_i fi desc hi hd
          simp only [Option.map_eq_some_iff] at hc
          obtain ⟨y, hy, rfl⟩ := hc
          have rx := Opd.of_rel hO.gl hρ hy
          simp only [sem] at hok ⊢
          obtain ⟨hp, v, hrun, hv⟩ := field_sound hs hf hi hd rx hok
          exact OpRun.quiet hO hp (v := v) (by simp [execOp, ho, hrun]) hv
        · cases hc
      · cases hc
    · cases hc
  case indexAddr t x ix =>
    split at hc
    · rename_i e ht
      split at hc
      · rename_i i hi
        simp only [Option.pure_def, Option.bind_eq_bind, Option.bind_eq_some_iff, Option.some.injEq] at hc
        obtain ⟨x', hx, y', hy, rfl⟩ := hc
        simp only [sem] at hok ⊢
        obtain ⟨hp, v, hrun, hv⟩ := idx_sound hO ht hi (Opd.of_rel hO.gl hρ hx) (Opd.of_rel hO.gl hρ hy) hok
        exact OpRun.quiet hO hp (v := v) (by simp [execOp, ho, hrun]) hv
      · cases hc
    · rename_i n e ht
      split at hc
      · rename_i i hi
        simp only [Option.pure_def, Option.bind_eq_bind, Option.bind_eq_some_iff, Option.some.injEq] at hc
        obtain ⟨x', hx, y', hy, rfl⟩ := hc
        simp only [sem] at hok ⊢
        obtain ⟨hp, v, hrun, hv⟩ := arrAddr_sound ht hi (Opd.of_rel hO.gl hρ hx) (Opd.of_rel hO.gl hρ hy) hok
        exact OpRun.quiet hO hp (v := v) (by simp [execOp, ho, hrun]) hv
      · cases hc
    · cases hc
  case slice t x lo hi' mx =>
    cases mx with
    | some m => cases hc
    | none =>
      simp only at hc
      split at hc
      · rename_i e ht
        split at hc
        · rename_i i hi
          simp only [Option.pure_def, Option.bind_eq_bind, Option.bind_eq_some_iff, Option.some.injEq] at hc
          obtain ⟨x', hx, lo', hlo, hi2, hhi, rfl⟩ := hc
          simp only [sem] at hok ⊢
          obtain ⟨hp, v, hrun, hv⟩ := slice_sound hO ht hi (Opd.of_rel hO.gl hρ hx) (optOpd_rel hO.gl hρ hlo) (optOpd_rel hO.gl hρ hhi) hok
          exact OpRun.quiet hO hp (v := v) (by simp [execOp, ho, hrun]) hv
        · cases hc
      · cases hc
  case extract x i =>
    simp only [Option.map_eq_some_iff] at hc
    obtain ⟨y, hy, rfl⟩ := hc
    have rx := Opd.of_rel hO.gl hρ hy
    unfold sem extractSem at hok ⊢
    simp only at hok ⊢
    split at hok
    · rename_i ts hb
      rw [hb] at rx
      simp only [RelD, RelT] at rx
      obtain ⟨vs, hv, hr⟩ := rx
      obtain ⟨v, hv2, hr2⟩ := RelA.get hr (i := i) (t := ts.getD i default) (by simp [List.getD, show i < ts.length from hok])
      refine OpRun.quiet hO rfl (v := v) ?_ (by simp only [RelD]; exact hr2)
      have : vs[i]? = some v := by simpa using hv2
      simp [execOp, ho, hv, Instr.extract, this]
    · rename_i ds hb
      rw [hb] at rx
      simp only [RelD] at rx
      obtain ⟨vs, hv, hr⟩ := rx
      have key : ∀ (ds : List DV) (vs : List Value) (i : Nat), RelDa w W objs L ds vs → i < ds.length → ∃ v, vs[i]? = some v ∧ RelD w W objs L (ds.getD i .undef) v := by
        intro ds
        induction ds with
        | nil => intro vs i _ h; simp at h
        | cons d ds ih =>
          intro vs i h hi
          simp only [RelDa] at h
          obtain ⟨v, vs', rfl, h1, h2⟩ := h
          cases i with
          | zero => exact ⟨v, rfl, h1⟩
          | succ i => simpa using ih vs' i h2 (by simpa using hi)
      obtain ⟨v, hv2, hr2⟩ := key ds _ i hr hok
      refine OpRun.quiet hO rfl (v := v) ?_ hr2
      have : vs[i]? = some v := by simpa using hv2
      simp [execOp, ho, hv, Instr.extract, this]
    · exact hok.elim
  case makeSlice t l c =>
    split at hc
    · rename_i e ht
      split at hc
      · rename_i i hi
        split at hc
        · rename_i z hz
          split at hc
          · rename_i p q
            split at hc
            · rename_i hpq
              obtain ⟨rfl, hsz⟩ := hpq
              simp only [Option.pure_def, Option.bind_eq_bind, Option.bind_eq_some_iff, Option.some.injEq] at hc
              obtain ⟨zero, hzero, rfl⟩ := hc
              simp only [sem] at hok ⊢
              obtain ⟨v, w', L', h1, h2, h3, h4⟩ := make_sound hO ht hi hz hsz hzero hname (Opd.of_rel hO.gl hρ (x := .tmp p) rfl) hok
              exact ⟨.value v, v, w', L', by simp [execOp, ho, h1], .inl rfl, h2, h3, h4⟩
            · cases hc
          · rename_i k p k' q
            split at hc
            · rename_i hpq
              obtain ⟨rfl, rfl, hsz⟩ := hpq
              simp only [Option.pure_def, Option.bind_eq_bind, Option.bind_eq_some_iff, Option.some.injEq] at hc
              obtain ⟨zero, hzero, rfl⟩ := hc
              simp only [sem] at hok ⊢
              obtain ⟨v, w', L', h1, h2, h3, h4⟩ := make_sound hO ht hi hz hsz hzero hname (Opd.of_rel (ρ := ρ) hO.gl hρ (x := .const (.int k p)) rfl) hok
              exact ⟨.value v, v, w', L', by simp [execOp, ho, h1], .inl rfl, h2, h3, h4⟩
            · cases hc
          · cases hc
        · cases hc
      · cases hc
    · cases hc
  case makeFunc f first caps =>
    split at hc
    · rename_i hf
      simp only [Option.pure_def, Option.bind_eq_bind, Option.bind_eq_some_iff, Option.some.injEq] at hc
      obtain ⟨cs, hcs, rfl⟩ := hc
      simp only [sem] at hok ⊢
      have hr : RelDs w W objs L (cs.map (·.ev ρ)) (caps.map a.eval).toList := by
        simpa using opds_relC hO.gl hρ hcs hok
      refine OpRun.quiet hO rfl (v := .func f #[] (caps.map a.eval)) ?_ ?_
      · have : first = #[] := by simpa using hf
        simp [execOp, ho, this, Instr.makeFunc]
      · by_cases hpb : pureB (cs.map (·.ev ρ)) = true
        · simp only [hpb, if_true, RelD, RelT]
          exact ⟨_, rfl, relL_of_pure (pureB_iff hpb) hr⟩
        · simp only [hpb, if_false, RelD]
          exact ⟨_, rfl, hr⟩
    · cases hc
  case call c =>
    have hargs : ∀ {xs : List Operand}, c.args.toList = xs → c.args = xs.toArray := fun h => by rw [← h, Array.toArray_toList]
    have htys : ∀ {xs : List TypeId}, c.argTypes.toList = xs → c.argTypes = xs.toArray := fun h => by rw [← h, Array.toArray_toList]
    unfold compileCall at hc
    split at hc
    · split at hc
      · split at hc
        · cases hc
        · simp only [Option.map_eq_some_iff] at hc
          obtain ⟨y, _, rfl⟩ := hc
          exact absurd rfl (hcall _ _)
      · cases hc
    · obtain ⟨ys, _, rfl⟩ := Option.map_eq_some_iff.1 hc
      exact hok.elim
    · rename_i hcal
      split at hc
      · rename_i x t hx ht
        have hce : c = { callee := .builtin .len, args := #[x], argTypes := #[t] } := by
          have h1 := hargs hx
          have h2 := htys ht
          cases c
          simp_all
        subst hce
        split at hc
        · rename_i e hu
          simp only [Option.map_eq_some_iff] at hc
          obtain ⟨y, hy, rfl⟩ := hc
          exact len_sound hO ho hu (Opd.of_rel hO.gl hρ hy) hok
        · rename_i hu
          simp only [Option.map_eq_some_iff] at hc
          obtain ⟨y, hy, rfl⟩ := hc
          exact lenS_sound hO ho hu (Opd.of_rel hO.gl hρ hy) hok
        · rename_i kt et hu
          simp only [Option.map_eq_some_iff] at hc
          obtain ⟨y, hy, rfl⟩ := hc
          exact lenM_sound hO ho hu (Opd.of_rel hO.gl hρ hy) hok
        · cases hc
      · cases hc
    · rename_i hcal
      split at hc
      · rename_i x y t t' hx ht
        have hce : c = { callee := .builtin .copy, args := #[x, y], argTypes := #[t, t'] } := by
          have h1 := hargs hx
          have h2 := htys ht
          cases c
          simp_all
        subst hce
        split at hc
        · rename_i e hu
          split at hc
          · rename_i i hi
            simp only [Option.pure_def, Option.bind_eq_bind, Option.bind_eq_some_iff, Option.some.injEq] at hc
            obtain ⟨x', hx', y', hy', rfl⟩ := hc
            simp only [sem] at hok ⊢
            obtain ⟨v, w', h1, h2, h3, h4⟩ := copy_sound (t := t) (t' := t') (ty := o.type) hO hu hi (Opd.of_rel hO.gl hρ hx') (Opd.of_rel hO.gl hρ hy') hok
            exact ⟨.value v, v, w', L, by simp [execOp, ho, resolve, invoke, builtin, h1], .inl rfl, h2, h3, h4⟩
          · cases hc
        · cases hc
      · cases hc
    · rename_i hcal
      split at hc
      · rename_i x k t ts' hx ht
        have hce : c = { callee := .builtin .delete, args := #[x, k], argTypes := c.argTypes } := by
          have h1 := hargs hx
          cases c
          simp_all
        have hts : c.argTypes[0]? = some t := by rw [← Array.getElem?_toList, ht]; rfl
        split at hc
        · rename_i kt et hu
          split at hc
          · rename_i ki hki
            simp only [Option.pure_def, Option.bind_eq_bind, Option.bind_eq_some_iff, Option.some.injEq] at hc
            obtain ⟨x', hx', k', hk', rfl⟩ := hc
            exact mapDel_sound hO hts (by rw [ho, ← hce]) hu hki (Opd.of_rel hO.gl hρ hx') (Opd.of_rel hO.gl hρ hk') hok
          · cases hc
        · cases hc
      · cases hc
    · rename_i hcal
      split at hc
      · rename_i x y hx
        have hce : c = { callee := .builtin .min, args := #[x, y], argTypes := c.argTypes } := by
          have h1 := hargs hx
          cases c
          simp_all
        simp only [Option.pure_def, Option.bind_eq_bind, Option.bind_eq_some_iff, Option.some.injEq] at hc
        obtain ⟨x', hx', y', hy', rfl⟩ := hc
        exact minmax_sound false hO (by rw [ho, hce]; rfl) (Opd.of_rel hO.gl hρ hx') (Opd.of_rel hO.gl hρ hy') hok
      · cases hc
    · rename_i hcal
      split at hc
      · rename_i x y hx
        have hce : c = { callee := .builtin .max, args := #[x, y], argTypes := c.argTypes } := by
          have h1 := hargs hx
          cases c
          simp_all
        simp only [Option.pure_def, Option.bind_eq_bind, Option.bind_eq_some_iff, Option.some.injEq] at hc
        obtain ⟨x', hx', y', hy', rfl⟩ := hc
        exact minmax_sound true hO (by rw [ho, hce]; rfl) (Opd.of_rel hO.gl hρ hx') (Opd.of_rel hO.gl hρ hy') hok
      · cases hc
    · rename_i hcal
      split at hc
      · rename_i x y t t' hx ht
        have hce : c = { callee := .builtin .append, args := #[x, y], argTypes := #[t, t'] } := by
          have h1 := hargs hx
          have h2 := htys ht
          cases c
          simp_all
        subst hce
        split at hc
        · cases hc
        · rename_i htt
          have htt : t = t' := by simpa using htt
          subst htt
          split at hc
          · rename_i e hu
            split at hc
            · rename_i i hi
              split at hc
              · rename_i z hz
                split at hc
                · rename_i hsz
                  simp only [Option.pure_def, Option.bind_eq_bind, Option.bind_eq_some_iff, Option.some.injEq] at hc
                  obtain ⟨x', hx', y', hy', rfl⟩ := hc
                  simp only [sem] at hok ⊢
                  obtain ⟨v, w', L', h1, h2, h3, h4⟩ := append_sound (ty := o.type) hO hu hi hz hsz.1 hsz.2 hname (Opd.of_rel hO.gl hρ hx') (Opd.of_rel hO.gl hρ hy') hok
                  exact ⟨.value v, v, w', L', by simp [execOp, ho, resolve, invoke, builtin, h1], .inl rfl, h2, h3, h4⟩
                · cases hc
              · cases hc
            · cases hc
          · cases hc
      · cases hc
    · cases hc
theorem mkB_sound (hO : RelO base W M w0 objs w L) {e sz by' : Nat} {zero : List T} {n : Opd} (hc : compileOp P o = some (.mkSlice e sz by' zero n)) (hρ : ∀ t, RelD w W objs L (ρ t) (a.tmps.getD t Go.undef)) (hname : objs name = none)
    (hok : (makeBSem sz by' zero name (n.ev ρ)).ok) : OpRun P base W M w0 objs L w a o (makeBSem sz by' zero name (n.ev ρ)) := by
  unfold compileOp at hc
  cases ho : o.op <;> simp only [ho, reduceCtorEq] at hc
  case makeSlice t l c =>
    split at hc
    · rename_i e' ht
      split at hc
      · rename_i i hi
        split at hc
        · rename_i z hz
          split at hc
          · rename_i p q
            split at hc
            · rename_i hpq
              obtain ⟨rfl, hsz⟩ := hpq
              simp only [Option.pure_def, Option.bind_eq_bind, Option.bind_eq_some_iff, Option.some.injEq, DOp.mkSlice.injEq] at hc
              obtain ⟨zero', hzero, rfl, rfl, rfl, rfl, rfl⟩ := hc
              obtain ⟨v, w', L', h1, h2, h3, h4⟩ := makeB_sound hO ht hi hz hzero hname (Opd.of_rel hO.gl hρ (x := .tmp p) rfl) hok
              exact ⟨.value v, v, w', L', by simp [execOp, ho, h1], .inl rfl, h2, h3, h4⟩
            · cases hc
          · rename_i k p k' q
            split at hc
            · rename_i hpq
              obtain ⟨rfl, rfl, hsz⟩ := hpq
              simp only [Option.pure_def, Option.bind_eq_bind, Option.bind_eq_some_iff, Option.some.injEq, DOp.mkSlice.injEq] at hc
              obtain ⟨zero', hzero, rfl, rfl, rfl, rfl, rfl⟩ := hc
              obtain ⟨v, w', L', h1, h2, h3, h4⟩ := makeB_sound hO ht hi hz hzero hname (Opd.of_rel (ρ := ρ) hO.gl hρ (x := .const (.int k p)) rfl) hok
              exact ⟨.value v, v, w', L', by simp [execOp, ho, h1], .inl rfl, h2, h3, h4⟩
            · cases hc
          · cases hc
        · cases hc
      · cases hc
    · cases hc
  case binOp op t x y yt =>
    exfalso
    simp only [Option.bind_eq_bind, Option.bind_eq_some_iff] at hc
    obtain ⟨x', hx, y', hy, hc⟩ := hc
    unfold compileBin at hc
    repeat' split at hc
    all_goals first | (cases hc; done) | (simp only [Option.map_eq_some_iff, reduceCtorEq, and_false, exists_false] at hc; done)
  case makeMap t h =>
    exfalso
    cases h with
    | some m => cases hc
    | none =>
      simp only at hc
      split at hc
      · simp only [Option.map_eq_some_iff, reduceCtorEq, and_false, exists_false] at hc
      · cases hc
  case slice t x lo hi mx =>
    exfalso
    cases mx with
    | some m => cases hc
    | none =>
      simp only at hc
      repeat' split at hc
      all_goals simp only [Option.map_eq_some_iff, Option.pure_def, Option.bind_eq_bind, Option.bind_eq_some_iff, Option.some.injEq, reduceCtorEq, and_false, exists_false] at hc
  case call c =>
    exfalso
    unfold compileCall at hc
    repeat' split at hc
    all_goals first
      | (cases hc; done)
      | (simp only [Option.map_eq_some_iff, Option.pure_def, Option.bind_eq_bind, Option.bind_eq_some_iff, Option.some.injEq, reduceCtorEq, and_false, exists_false] at hc; done)
      | skip
  all_goals exfalso
  all_goals first
    | (simp only [Option.map_eq_some_iff, reduceCtorEq, and_false, exists_false] at hc; done)
    | (simp only [Option.pure_def, Option.bind_eq_bind, Option.bind_eq_some_iff, Option.some.injEq, reduceCtorEq, and_false, exists_false] at hc; done)
    | (repeat' split at hc) <;> first
        | (simp only [Option.map_eq_some_iff, Option.pure_def, Option.bind_eq_bind, Option.bind_eq_some_iff, Option.some.injEq, reduceCtorEq, and_false, exists_false] at hc; done)
        | (simp [Option.bind_eq_some_iff] at hc; done)
theorem no_mkB {e sz by' : Nat} {zero : List T} {n : Opd} (hc : compileOp P o = some (.mkSliceB e sz by' zero n)) : False := by
  unfold compileOp at hc
  cases ho : o.op <;> simp only [ho, reduceCtorEq] at hc
  case makeSlice t l c =>
    repeat' split at hc
    all_goals first
      | (cases hc; done)
      | (simp only [Option.pure_def, Option.bind_eq_bind, Option.bind_eq_some_iff, Option.some.injEq, reduceCtorEq, and_false, exists_false] at hc; done)
  case binOp op t x y yt =>
    simp only [Option.bind_eq_bind, Option.bind_eq_some_iff] at hc
    obtain ⟨x', hx, y', hy, hc⟩ := hc
    unfold compileBin at hc
    repeat' split at hc
    all_goals first | (cases hc; done) | (simp only [Option.map_eq_some_iff, reduceCtorEq, and_false, exists_false] at hc; done)
  case makeMap t h =>
    cases h with
    | some m => cases hc
    | none =>
      simp only at hc
      split at hc
      · simp only [Option.map_eq_some_iff, reduceCtorEq, and_false, exists_false] at hc
      · cases hc
  case slice t x lo hi mx =>
    cases mx with
    | some m => cases hc
    | none =>
      simp only at hc
      repeat' split at hc
      all_goals simp only [Option.map_eq_some_iff, Option.pure_def, Option.bind_eq_bind, Option.bind_eq_some_iff, Option.some.injEq, reduceCtorEq, and_false, exists_false] at hc
  case call c =>
    unfold compileCall at hc
    repeat' split at hc
    all_goals first
      | (cases hc; done)
      | (simp only [Option.map_eq_some_iff, Option.pure_def, Option.bind_eq_bind, Option.bind_eq_some_iff, Option.some.injEq, reduceCtorEq, and_false, exists_false] at hc; done)
  all_goals first
    | (simp only [Option.map_eq_some_iff, reduceCtorEq, and_false, exists_false] at hc; done)
    | (simp only [Option.pure_def, Option.bind_eq_bind, Option.bind_eq_some_iff, Option.some.injEq, reduceCtorEq, and_false, exists_false] at hc; done)
    | (repeat' split at hc) <;> first
        | (simp only [Option.map_eq_some_iff, Option.pure_def, Option.bind_eq_bind, Option.bind_eq_some_iff, Option.some.injEq, reduceCtorEq, and_false, exists_false] at hc; done)
        | (simp [Option.bind_eq_some_iff] at hc; done)
end
end Go.DM
/- The D-machine, part J: a region's operations one after another, calls of Go functions among them. Conditions: none. -/
namespace Go.DM
open Go.RowKit
set_option linter.unusedSimpArgs false
set_option linter.unusedVariables false
set_option linter.unusedSectionVars false
variable [Laid] [YieldK]

/-- An operation of a region: what it does, the slot that it writes, the slot and the answer that it waits for, the operations that it comes behind. -/
structure RO where
  d : DOp
  dst : Option Nat
  guard : Option (Nat × Bool)
  after : List Nat
  touch : Option (List Nat) := none   -- the names that it may touch, where that must be known

structure RS where
  tmps : Nat → DV
  objs : Obs
  todo : List (List T)

def updT (f : Nat → DV) : Option Nat → DV → Nat → DV
  | none, _ => f
  | some k, v => fun x => if x = k then v else f x

def wantD (g : Option (Nat × Bool)) (ρ : Nat → DV) : Option Bool :=
  match g with
  | none => some true
  | some (s, want) => match ρ s with
    | .v (.bool b) => some (b == want)
    | .skip => some false
    | _ => none

/-- The name that an operation may give: by its slot. -/
def nameOf (nxt : Nat) : Option Nat → Nat
  | some d => nxt + d + 1
  | none => nxt

def eff (Γ : Env) (nxt : Nat) (r : RO) (st : RS) : Eff := sem Γ r.d (nameOf nxt r.dst) st.tmps st.objs

/-- The operands of an operation. -/
def opdsOf : DOp → List Opd
  | .mov x | .box x | .load _ _ x | .un _ x | .conv _ x | .addOff _ x | .nilCheck x | .field _ _ _ x | .extract _ x | .len x | .lenS x | .mkSlice _ _ _ _ x | .mkSliceB _ _ _ _ x | .lenM x | .rangeM x | .entryM x | .isNil _ _ x => [x]
  | .pick c a b => [c, a, b]
  | .alloc _ | .mkMap _ _ | .fail => []
  | .build _ ps | .bslice _ _ _ ps => ps.map (·.2.2)
  | .store _ x y | .bin _ x y | .eqT _ _ _ x y | .idxAddr _ x y | .arrAddr _ _ x y | .minmax _ x y | .append _ _ _ x y | .lookup _ _ _ _ x y | .mapDel _ _ x y | .copy _ x y | .indexS x y => [x, y]
  | .mapUpd _ _ x k y => [x, k, y]
  | .mapEnt _ _ _ x k => [x, k]
  | .entSt x s y => [x, s, y]
  | .slice _ x lo hi => x :: (lo.toList ++ hi.toList)
  | .call _ xs | .callS _ xs | .callF _ xs | .callR _ xs | .mkFn _ xs => xs
  | .callv x xs => x :: xs

/-- It touches no other names than it says. -/
def touchOk (r : RO) (ρ : Nat → DV) : Prop :=
  match r.touch with
  | none => True
  | some l => ∀ x ∈ opdsOf r.d, ∀ n ∈ names (x.ev ρ), n ∈ l

/-- What an operation leaves. -/
def post (Γ : Env) (nxt : Nat) (r : RO) (st : RS) : SEff :=
  if is4 r.d then semS Γ r.d st.tmps st.objs st.todo
  else ⟨(eff Γ nxt r st).ok, (eff Γ nxt r st).val, putO st.objs (eff Γ nxt r st).put, st.todo⟩

/-- What may do anything, and says what it touches, keeps all else. -/
def keep4 (r : RO) (o o' : Obs) : Prop := is4 r.d = true → ∀ l, r.touch = some l → ∀ n, n ∉ l → o' n = o n

def stepOk (Γ : Env) (nxt : Nat) (r : RO) (st : RS) : Prop :=
  match wantD r.guard st.tmps with
  | some true => (post Γ nxt r st).ok ∧ touchOk r st.tmps ∧ keep4 r st.objs (post Γ nxt r st).objs
  | some false => True
  | none => False

def stepSt (Γ : Env) (nxt : Nat) (r : RO) (st : RS) : RS :=
  match wantD r.guard st.tmps with
  | some true => ⟨updT st.tmps r.dst (post Γ nxt r st).val, (post Γ nxt r st).objs, (post Γ nxt r st).todo⟩
  | some false => ⟨updT st.tmps r.dst .skip, st.objs, st.todo⟩
  | none => st

def scalarT : T → Bool
  | .bool _ | .int _ _ | .str _ => true
  | .tup ts => scalarTs ts
  | .agg ts => scalarTs ts
  | _ => false
where
  scalarTs : List T → Bool
  | [] => true
  | t :: ts => scalarT t && scalarTs ts

theorem scalar_rel : ∀ (n : Nat), (∀ (t : T) (w w' : World) (W W' : Nat → Prop) (v : Value), SizeOf.sizeOf t < n → scalarT t = true → RelT w W t v → RelT w' W' t v) ∧
    (∀ (ts : List T) (w w' : World) (W W' : Nat → Prop) (vs : List Value), SizeOf.sizeOf ts < n → scalarT.scalarTs ts = true → (RelL w W ts vs → RelL w' W' ts vs) ∧ (RelA w W ts vs → RelA w' W' ts vs))
  | 0 => ⟨fun _ _ _ _ _ _ h => by omega, fun _ _ _ _ _ _ h => by omega⟩
  | n + 1 => by
    have ih := scalar_rel n
    refine ⟨fun t w w' W W' v hn hs h => ?_, fun ts w w' W W' vs hn hs => ?_⟩
    · cases t with
      | agg ts => simp only [RelT] at h ⊢; obtain ⟨vs, hv, hr⟩ := h; exact ⟨vs, hv, (ih.2 ts w w' W W' _ (by simp at hn ⊢; omega) hs).1 hr⟩
      | tup ts => simp only [RelT] at h ⊢; obtain ⟨vs, hv, hr⟩ := h; exact ⟨vs, hv, (ih.2 ts w w' W W' _ (by simp at hn ⊢; omega) hs).2 hr⟩
      | bool b => simpa [RelT] using h
      | int k n => simpa [RelT] using h
      | str s => simpa [RelT] using h
      | _ => exact absurd hs Bool.false_ne_true
    · cases ts with
      | nil => exact ⟨fun h => by simpa [RelL] using h, fun h => by simpa [RelA] using h⟩
      | cons t ts =>
        simp only [scalarT.scalarTs, Bool.and_eq_true] at hs
        have h2 := ih.2 ts w w' W W'
        refine ⟨fun h => ?_, fun h => ?_⟩
        · simp only [RelL] at h ⊢
          obtain ⟨v, vs', rfl, h1, hr, hrs⟩ := h
          exact ⟨v, vs', rfl, h1, ih.1 t w w' W W' v (by simp at hn ⊢; omega) hs.1 hr, (h2 _ (by simp at hn ⊢; omega) hs.2).1 hrs⟩
        · simp only [RelA] at h ⊢
          obtain ⟨v, vs', rfl, hr, hrs⟩ := h
          exact ⟨v, vs', rfl, ih.1 t w w' W W' v (by simp at hn ⊢; omega) hs.1 hr, (h2 _ (by simp at hn ⊢; omega) hs.2).2 hrs⟩

/-- The function may be entered as a value, too. -/
def Entry (P : Program) (f : FuncId) : Prop := ∃ fn, P.funcs[f]? = some fn ∧ fn.name ≠ "runtime.NumGoroutine" ∧ fn.body.isNone = false

/-- A call on these trees returns that tree. -/
structure CallsOk (P : Program) (f : FuncId) (ts : List T) (t : T) : Prop where
  entry : Entry P f
  run : ∀ (W : Nat → Prop) (w : World) (vals : Array Value), (∀ b, W b → b < w.heap.size) → GOk w W → RelA w W ts vals.toList →
    Calls P f vals w fun e w' => ∃ v, e = .returned v ∧ BelD w.heap.size w w' ∧ RelT w' W t v

/-- What is laid is new, and holds these rows. -/
structure FreshArr (n0 : Nat) (w' : World) (W : Nat → Prop) (e sz : Nat) (rows : List (List T)) (v : Value) : Prop where
  pos : 0 < sz
  len : ∀ x ∈ rows, x.length = sz
  it : (rows = [] ∧ ∃ a : Option Addr, v = .slice a 0 0) ∨ ∃ g cap cur, v = .slice (some ⟨g, 0, none⟩) rows.length cap ∧ 0 < cap ∧ n0 ≤ g ∧ w'.heap[g]? = some (.cells cur e (0, 0)) ∧ rows.length ≤ cap ∧ cap ≤ maxLen ∧ cur.size = cap * sz ∧ RelL w' (fun b => W b ∨ b = g) rows.flatten (cur.toList.take (rows.length * sz))
/-- A call on these trees returns a slice over new memory. -/
structure CallsF (P : Program) (f : FuncId) (ts : List T) (e sz : Nat) (rows : List (List T)) : Prop where
  entry : Entry P f
  run : ∀ (W : Nat → Prop) (w : World) (vals : Array Value), (∀ b, W b → b < w.heap.size) → GOk w W → RelA w W ts vals.toList →
    Calls P f vals w fun e' w' => ∃ v, e' = .returned v ∧ BelD w.heap.size w w' ∧ FreshArr w.heap.size w' W e sz rows v

/-- Arguments, each as its slot says. -/
def RelDA (w : World) (W : Nat → Prop) (objs : Obs) (L : Loc) (ds : List DV) (vs : List Value) : Prop :=
  vs.length = ds.length ∧ ∀ (i : Nat) (d : DV) (v : Value), ds[i]? = some d → vs[i]? = some v → RelD w W objs L d v

/-- A call that may write the objects. -/
structure CallsS (P : Program) (f : FuncId) (args : List DV) (objs : Obs) (r : SRes) : Prop where
  entry : Entry P f
  run : ∀ (base : Nat) (W M : Nat → Prop) (w0 w : World) (L : Loc) (vals : Array Value), RelO base W M w0 objs w L → RelDA w W objs L args vals.toList →
    Calls P f vals w fun e w' => ∃ v L', e = .returned v ∧ RelO base W M w0 r.objs w' L' ∧ Adv W objs L w r.objs L' w' ∧ RelD w' W r.objs L' r.val v

/-- The contracts hold. -/
structure SpecOk (P : Program) (f : FuncId) (s : Spec) : Prop where
  pure : ∀ ts, s.pre ts → CallsOk P f ts (s.fn ts) ∧ (s.scalar = true → scalarT (s.fn ts) = true)
  fresh : ∀ e sz, s.fresh = some (e, sz) → ∀ ts, s.pre ts → ∃ rows, s.fn ts = .sl rows ∧ CallsF P f ts e sz rows ∧ (s.lend = true → scalarT.scalarTs rows.flatten = true)
  st : ∀ k, s.st = some k → ∀ args objs, (k args objs).ok → (∀ N, (∀ r, N ≤ r → objs r = none) → CallsS P f args objs (k args objs)) ∧ ∀ r, objs r = none → (k args objs).objs r = none
def EnvOk (P : Program) (Γ : Env) : Prop := ∀ f s, Γ f = some s → SpecOk P f s

/-- The fence that lets everything in, in a round or not. -/
def wideR (ro : Option Nat) : Fence := { Fence.wide with round := ro }

theorem callsIn_wideR {ro : Option Nat} {n : Nat} {P : Program} {f : FuncId} {args : Array Value} {w : World} {R : Ending → World → Prop} (h : Calls P f args w R) : CallsIn (wideR ro) n P f args w R := by
  have h0 : CallsIn Fence.wide n P f args w R := callsIn_wide.2 h
  exact h0

/-- What is fixed through a run: what the callers may still write; how the run began; the frame; of an iterator, what holds between two rounds. -/
structure Ctx where
  W : Nat → Prop
  go : Obs
  gL : Loc
  gw : World
  base : Nat
  M : Nat → Prop
  w0 : World
  J : Option ((Nat → Prop) → List (List T) → World → Prop)
  ro : Option Nat     -- in the round of that loop
  Y : Option (Nat × Loop × Loop) := none   -- of an iterator that shares objects with the loop's body: the loop's record, going on and stopped

def Ctx.At (κ : Ctx) (todo : List (List T)) (W : Nat → Prop) (base : Nat) (M : Nat → Prop) (w0 : World) : Prop :=
  match κ.J with
  | none => (κ.Y = none → todo = []) ∧ W = κ.W ∧ base = κ.base ∧ M = κ.M ∧ w0 = κ.w0
  | some J => J W todo w0 ∧ base = w0.heap.size ∧ M = (fun _ => False) ∧ (∀ b, W b → κ.W b ∨ κ.gw.heap.size ≤ b) ∧ ∀ b, κ.W b → W b

/-- An iterator's caller keeps its word. -/
structure Yields (P : Program) (l : Nat) (J : (Nat → Prop) → List (List T) → World → Prop) : Prop where
  stays : ∀ (W : Nat → Prop) (todo : List (List T)) (A B : World), J W todo A → BelD A.heap.size A B → J W todo B
  round : ∀ (W : Nat → Prop) (x : List T) (rest : List (List T)) (vals : Array Value) (A : World), J W (x :: rest) A → RelA A W x vals.toList →
    ∃ fn tmps assign body, (Instr.yield l vals).run P A = .ok (.round l fn tmps assign body) A ∧ RoundIn Fence.wide 0 P l fn tmps assign body A fun e B =>
      e = .returned (.bool true) ∧ ∃ W', J W' rest B ∧ Keeps W A B ∧ (∀ b, W' b → b < B.heap.size ∧ (W b ∨ A.heap.size ≤ b)) ∧ ∀ b, W b → W' b
/-- A loop's body, called by an iterator that shares objects with it. r: the record between two rounds; s: when it has been left. -/
structure YieldsS (P : Program) (l : Nat) (r s : Loop) (k : List DV → Obs → SRes) (base : Nat) (W M : Nat → Prop) (w0 : World) (go : Obs) (gL : Loc) (gw : World) : Prop where
  round : ∀ (w : World) (L : Loc) (objs : Obs) (args : List DV) (vals : Array Value), (k args objs).ok → yIs (k args objs).val → (∃ N, ∀ x, N ≤ x → objs x = none) → w.heap[l]? = some (.loop r) →
    Adv W go gL gw objs L w → RelO base W M w0 objs w L → RelDA w W objs L args vals.toList →
    ∃ fn tmps assign body, (Instr.yield l vals).run P w = .ok (.round l fn tmps assign body) w ∧ RoundIn Fence.wide 0 P l fn tmps assign body w fun e B =>
      e = .returned (.bool (yGo (k args objs).val)) ∧ ∃ L', RelO base W M w0 (k args objs).objs B L' ∧ Adv W objs L (w.putObj l (.loop (if yGo (k args objs).val then r else s))) (k args objs).objs L' B
theorem _root_.Go.World.putObj_self {w : World} {l : Nat} {o : Obj} (h : w.heap[l]? = some o) : w.putObj l o = w := by
  obtain ⟨hl, e⟩ := Array.getElem?_eq_some_iff.1 h
  have : w.heap.setIfInBounds l o = w.heap := by
    refine Array.ext_getElem? fun i => ?_
    rw [Array.getElem?_setIfInBounds]
    split
    · rename_i e2; subst e2; exact h.symm
    · rfl
  unfold World.putObj
  rw [this]
/-- The world that a run is held against: with the record as it is now. -/
def Ctx.gwT (κ : Ctx) (todo : List (List T)) : World := match κ.Y with
  | none => κ.gw
  | some (l, r, s) => κ.gw.putObj l (.loop (match todo with | [] => s | _ => r))
theorem Ctx.gwT_size (κ : Ctx) (todo : List (List T)) : (κ.gwT todo).heap.size = κ.gw.heap.size := by
  unfold Ctx.gwT
  split
  · rfl
  · simp [World.putObj]
theorem Ctx.gwT_none {κ : Ctx} (h : κ.Y = none) (todo : List (List T)) : κ.gwT todo = κ.gw := by simp [Ctx.gwT, h]
structure Ctx.Good (P : Program) (κ : Ctx) : Prop where
  y : ∀ J, κ.J = some J → Yields P κ.gL.yl J ∧ YieldK.k = none ∧ κ.Y = none
  ys : ∀ l r s, κ.Y = some (l, r, s) → κ.base ≤ l ∧ κ.gw.heap[l]? = some (.loop r) ∧ ∃ k, YieldK.k = some (l, k) ∧ YieldsS P l r s k κ.base κ.W κ.M κ.w0 κ.go κ.gL κ.gw
  rd : ∀ l, κ.ro = some l → ∃ r, κ.gw.heap[l]? = some (.loop r)

def mark (D : Nat) : Deferred := { target := .collected D, args := #[] }

structure R0 (base : Nat) (W M : Nat → Prop) (w0 : World) (nt : Nat) (tmps : Nat → DV) (objs : Obs) (a : Act) (w : World) (L : Loc) : Prop where
  size : a.tmps.size = nt
  tmps : ∀ t, RelD w W objs L (tmps t) (a.tmps.getD t Go.undef)
  o : RelO base W M w0 objs w L

/-- The state describes the frame and the world. -/
structure RelR (κ : Ctx) (nt : Nat) (st : RS) (a : Act) (w : World) (L : Loc) : Prop where
  ex : ∃ W base M w0, κ.At st.todo W base M w0 ∧ R0 base W M w0 nt st.tmps st.objs a w L
  adv : Adv κ.W κ.go κ.gL (κ.gwT st.todo) st.objs L w
  defers : ∃ Ds : List Nat, a.defers = Ds.map mark ∧ Ds.Nodup ∧ (∀ D ∈ Ds, w.heap[D]? = some (.deferred (some [])) ∧ κ.gw.heap.size ≤ D) ∧ (κ.J.isSome = true → Ds = [])
  bg : κ.J = none → κ.base ≤ κ.gw.heap.size
  fin : ∃ N, ∀ r, N ≤ r → st.objs r = none

theorem Ctx.At.sub {κ : Ctx} {todo : List (List T)} {W : Nat → Prop} {base : Nat} {M : Nat → Prop} {w0 : World} (h : κ.At todo W base M w0) : (∀ b, W b → κ.W b ∨ κ.gw.heap.size ≤ b) ∧ ∀ b, κ.W b → W b := by
  unfold Ctx.At at h
  split at h
  · obtain ⟨_, rfl, _⟩ := h; exact ⟨fun _ h => .inl h, fun _ h => h⟩
  · exact ⟨h.2.2.2.1, h.2.2.2.2⟩
theorem Ctx.At.subT {κ : Ctx} {todo : List (List T)} {W : Nat → Prop} {base : Nat} {M : Nat → Prop} {w0 : World} (h : κ.At todo W base M w0) (td : List (List T)) : ∀ b, W b → κ.W b ∨ (κ.gwT td).heap.size ≤ b := by
  rw [Ctx.gwT_size]; exact h.sub.1

theorem Ctx.gwT_loop {κ : Ctx} {l : Nat} {r : Loop} (td : List (List T)) (h : κ.gw.heap[l]? = some (.loop r)) : ∃ r', (κ.gwT td).heap[l]? = some (.loop r') := by
  unfold Ctx.gwT
  split
  · exact ⟨r, h⟩
  · rename_i l' _ _ _
    by_cases e : l = l'
    · subst e
      exact ⟨_, World.putObj_heap_same (Array.getElem?_eq_some_iff.1 h).1⟩
    · exact ⟨r, by rw [World.putObj_heap_other e]; exact h⟩

theorem Adv.comp {W V : Nat → Prop} {go objs objs' : Obs} {gL L L' : Loc} {gw w w' : World} (h : Adv V go gL gw objs L w) (k : Adv W objs L w objs' L' w') (h1 : ∀ b, W b → V b ∨ gw.heap.size ≤ b) (h2 : ∀ b, V b → W b) :
    Adv V go gL gw objs' L' w' := by
  have up : ∀ b, b < gw.heap.size → WW W objs L b → WW V objs L b := fun b hb hw => by
    rcases hw with hw | hw
    · rcases h1 b hw with h3 | h3
      · exact .inl h3
      · omega
    · exact .inr hw
  refine ⟨⟨⟨Nat.le_trans h.keeps.size k.keeps.size, fun b c e fr hb hn => ?_⟩, fun b hb => k.keeps.dfr b (h.keeps.dfr b hb), fun b r hb => k.keeps.lps b r (h.keeps.lps b r hb)⟩, fun b hb hw => ?_, fun r o hr hk => ?_, fun r ver e sz rows hr => ?_, k.yl.trans h.yl⟩
  · have hlt := (Array.getElem?_eq_some_iff.1 hb).1
    exact k.keeps.blk b c e fr (h.keeps.blk b c e fr hb hn) fun x => hn (h.sub b hlt (up b hlt x))
  · refine h.sub b hb (up b hb (k.sub b (Nat.lt_of_lt_of_le hb h.keeps.size) ?_))
    rcases hw with hw | hw
    · exact .inl (h2 b hw)
    · exact .inr hw
  · obtain ⟨e1, o1, hr1, hk1⟩ := h.fix r o hr hk
    obtain ⟨e2, o2, hr2, hk2⟩ := k.fix r o1 hr1 (by rw [hk1]; exact hk)
    exact ⟨e2.trans e1, o2, hr2, hk2.trans hk1⟩
  · obtain ⟨v1, e1, s1, r1, hr1, l1, k1⟩ := h.arr r ver e sz rows hr
    obtain ⟨v2, e2, s2, r2, hr2, l2, k2⟩ := k.arr r v1 e1 s1 r1 hr1
    refine ⟨v2, e2, s2, r2, hr2, Nat.le_trans l1 l2, fun hv => ?_⟩
    have hv1 : v1 = ver := by omega
    obtain ⟨a1, a2, a3⟩ := k1 hv1
    obtain ⟨b1, b2, b3⟩ := k2 (by omega)
    exact ⟨b1.trans a1, b2.trans a2, b3.trans a3⟩

section
variable {P : Program} {κ : Ctx} {base : Nat} {W M : Nat → Prop} {w0 : World} {nt : Nat} {Γ : Env} {nxt : Nat}

theorem getD_put (tmps : Array Value) (d t : Nat) (v : Value) (hd : d < tmps.size) : (tmps.setIfInBounds d v).getD t Go.undef = if t = d then v else tmps.getD t Go.undef := by
  simp only [Array.getD_eq_getD_getElem?, Array.getElem?_setIfInBounds]
  by_cases h : d = t
  · subst h; simp [hd]
  · have : t ≠ d := fun e => h e.symm
    simp [h, this]

/-- A step's value is put into its slot. -/
theorem R0.put {tmps : Nat → DV} {objs : Obs} {a : Act} {w w' : World} {L L' : Loc} {objs' : Obs} (h : R0 base W M w0 nt tmps objs a w L) (dst : Option Nat) (hdst : ∀ d, dst = some d → d < nt) {v : DV} {x : Value}
    (hO : RelO base W M w0 objs' w' L') (hA : Adv W objs L w objs' L' w') (hv : RelD w' W objs' L' v x) :
    R0 base W M w0 nt (updT tmps dst v) objs' (a.put dst x) w' L' := by
  cases dst with
  | none => exact ⟨h.size, fun t => RelD.adv hA _ _ (h.tmps t), hO⟩
  | some d =>
    refine ⟨by simpa [Act.put] using h.size, fun t => ?_, hO⟩
    simp only [updT, Act.put]
    rw [getD_put _ _ _ _ (by rw [h.size]; exact hdst d rfl)]
    by_cases ht : t = d
    · simp only [ht, if_true]; exact hv
    · simp only [ht, if_false]; exact RelD.adv hA _ _ (h.tmps t)

theorem put_defers (a : Act) (dst : Option Nat) (x : Value) : (a.put dst x).defers = a.defers := by cases dst <;> rfl

theorem RelR.put {st : RS} {a : Act} {w w' : World} {L L' : Loc} {objs' : Obs} (hR : RelR κ nt st a w L) (hat : κ.At st.todo W base M w0) (h : R0 base W M w0 nt st.tmps st.objs a w L)
    (dst : Option Nat) (hdst : ∀ d, dst = some d → d < nt) {v : DV} {x : Value} (hO : RelO base W M w0 objs' w' L') (hA : Adv W st.objs L w objs' L' w') (hv : RelD w' W objs' L' v x) (hfin : ∃ N, ∀ r, N ≤ r → objs' r = none) :
    RelR κ nt ⟨updT st.tmps dst v, objs', st.todo⟩ (a.put dst x) w' L' :=
  ⟨⟨W, base, M, w0, hat, h.put dst hdst hO hA hv⟩, hR.adv.comp hA (hat.subT _) hat.sub.2, by
    obtain ⟨Ds, h1, h2, h3, h4⟩ := hR.defers
    exact ⟨Ds, by rw [put_defers]; exact h1, h2, fun D hD => ⟨hA.keeps.dfr D (h3 D hD).1, (h3 D hD).2⟩, h4⟩, hR.bg, hfin⟩

theorem RelR.skip {st : RS} {a : Act} {w : World} {L : Loc} (h : RelR κ nt st a w L) (dst : Option Nat) (hdst : ∀ d, dst = some d → d < nt) :
    RelR κ nt ⟨updT st.tmps dst .skip, st.objs, st.todo⟩ (a.put dst Go.undef) w L := by
  obtain ⟨W, base, M, w0, hat, h0⟩ := h.ex
  exact RelR.put h hat h0 dst hdst h0.o (Adv.refl_of_keeps (Keeps.refl _ _)) (by simp [RelD]) h.fin

theorem about_wide {ro : Option Nat} (o : Oper) (w : World) (ρ : Operand → Value) : ∀ f, o.about P w ρ = some f → (wideR ro).fn f := fun _ _ => trivial

theorem compile_nodefer {o : Oper} {d : DOp} (h : compileOp P o = some d) : ∀ c, o.op ≠ .defer c := by
  intro c hc
  simp [compileOp, hc] at h

theorem compile_call {o : Oper} {d : DOp} (hc : compileOp P o = some d) (hd' : (∃ f args, d = .call f args) ∨ (∃ f args, d = .callS f args) ∨ (∃ f args, d = .callv f args) ∨ (∃ f args, d = .callF f args) ∨ ∃ f args, d = .callR f args) : ∃ c, o.op = .call c ∧ compileCall P c = some d := by
  rcases hd' with ⟨f, args, rfl⟩ | ⟨f, args, rfl⟩ | ⟨f, args, rfl⟩ | ⟨f, args, rfl⟩ | ⟨f, args, rfl⟩
  all_goals
    unfold compileOp at hc
    cases ho : o.op <;> simp only [ho, reduceCtorEq] at hc
    case call c => exact ⟨c, rfl, hc⟩
    case binOp op t x y yt =>
      exfalso
      simp only [Option.bind_eq_bind, Option.bind_eq_some_iff] at hc
      obtain ⟨x', hx, y', hy, hc⟩ := hc
      unfold compileBin at hc
      repeat' split at hc
      all_goals first | (cases hc; done) | (simp only [Option.map_eq_some_iff, reduceCtorEq, and_false, exists_false] at hc; done)
    case makeMap t h =>
      exfalso
      cases h with
      | some m => cases hc
      | none =>
        simp only at hc
        split at hc
        · simp only [Option.map_eq_some_iff, reduceCtorEq, and_false, exists_false] at hc
        · cases hc
    case slice t x lo hi mx =>
      exfalso
      cases mx with
      | some m => cases hc
      | none =>
        simp only at hc
        repeat' split at hc
        all_goals simp only [Option.map_eq_some_iff, Option.pure_def, Option.bind_eq_bind, Option.bind_eq_some_iff, Option.some.injEq, reduceCtorEq, and_false, exists_false] at hc
    all_goals exfalso
    all_goals first
      | (simp only [Option.map_eq_some_iff, reduceCtorEq, and_false, exists_false] at hc; done)
      | (simp only [Option.pure_def, Option.bind_eq_bind, Option.bind_eq_some_iff, Option.some.injEq, reduceCtorEq, and_false, exists_false] at hc; done)
      | (repeat' split at hc) <;> first
          | (simp only [Option.map_eq_some_iff, Option.pure_def, Option.bind_eq_bind, Option.bind_eq_some_iff, Option.some.injEq, reduceCtorEq, and_false, exists_false] at hc; done)
          | (simp [Option.bind_eq_some_iff] at hc; done)

theorem callee_call {c : Call} {f : FuncId} {args : List Opd} (h : compileCall P c = some (.call f args)) : ∃ fn, c.callee = .value (.func f) ∧ P.funcs[f]? = some fn ∧ fn.name ≠ "runtime.NumGoroutine" ∧ fn.body.isNone = false ∧ c.args.toList.mapM Opd.of = some args := by
  unfold compileCall at h
  split at h
  · rename_i g hcal
    split at h
    · rename_i fn hfn
      split at h
      · cases h
      · rename_i hnr
        simp only [Option.map_eq_some_iff, DOp.call.injEq] at h
        obtain ⟨ys, hys, rfl, rfl⟩ := h
        refine ⟨fn, hcal, hfn, fun e => hnr (.inl e), ?_, hys⟩
        cases hb : fn.body.isNone
        · rfl
        · exact absurd (.inr hb) hnr
    · cases h
  all_goals
    repeat' split at h
    all_goals first
      | (simp only [Option.map_eq_some_iff, Option.pure_def, Option.bind_eq_bind, Option.bind_eq_some_iff, Option.some.injEq, reduceCtorEq, and_false, exists_false] at h; done)
      | skip
theorem callee_callv {c : Call} {x : Opd} {args : List Opd} (h : compileCall P c = some (.callv x args)) : ∃ t, c.callee = .value (.tmp t) ∧ x = .tmp t ∧ c.args.toList.mapM Opd.of = some args := by
  unfold compileCall at h
  split at h
  · split at h
    · split at h
      · cases h
      · simp at h
    · cases h
  · rename_i t hcal
    simp only [Option.map_eq_some_iff, DOp.callv.injEq] at h
    obtain ⟨ys, hys, rfl, rfl⟩ := h
    exact ⟨t, hcal, rfl, hys⟩
  all_goals
    repeat' split at h
    all_goals first
      | (simp only [Option.map_eq_some_iff, Option.pure_def, Option.bind_eq_bind, Option.bind_eq_some_iff, Option.some.injEq, reduceCtorEq, and_false, exists_false] at h; done)
      | skip

/-- A call that may write bears its own name; in the code it is a call as any. -/
def bareD : DOp → DOp
  | .callS f args => .call f args
  | .callF f args => .call f args
  | .callR f args => .call f args
  | .mkSliceB e sz bytes zero n => .mkSlice e sz bytes zero n
  | d => d

theorem relDA_relA (W' : Nat → Prop) {lend : Bool} {objs : Obs} {w : World} {L : Loc} (hO : RelO base W M w0 objs w L) (hW : lend = true → ∀ r o b, objs r = some o → L.own r o = some b → ¬ W' b) (hW2 : ∀ b, W' b → WW W objs L b) :
    ∀ {ds : List DV} {vs : List Value}, RelDA w W objs L ds vs → tOks lend objs ds → RelA w W' (tOfs objs ds) vs
  | [], vs, h, _ => by
    have : vs = [] := List.eq_nil_of_length_eq_zero h.1
    subst this
    simp [RelA, tOfs]
  | d :: ds, [], h, _ => by have := h.1; simp at this
  | d :: ds, v :: vs, h, hk => by
    simp only [tOks] at hk
    simp only [RelA, tOfs]
    exact ⟨v, vs, rfl, (tOf_relT W' hO hW hW2).1 _ _ (h.2 0 d v rfl rfl) hk.1, relDA_relA W' hO hW hW2 ⟨by simpa using h.1, fun i x y hx hy => h.2 (i + 1) x y (by simpa using hx) (by simpa using hy)⟩ hk.2⟩

theorem pure_call (hΓ : EnvOk P Γ) {objs : Obs} {w : World} {L : Loc} (hO : RelO base W M w0 objs w L) {g : FuncId} {s : Spec} (hg : Γ g = some s) {ds : List DV} {vals : Array Value} (hlend : tOks s.scalar objs ds) (hpre : s.pre (tOfs objs ds))
    (hr : RelDA w W objs L ds vals.toList) : Calls P g vals w fun e w' => ∃ v, e = .returned v ∧ RelO base W M w0 objs w' L ∧ Adv W objs L w objs L w' ∧ RelD w' W objs L (.v (s.fn (tOfs objs ds))) v := by
  obtain ⟨hcalls, hsc⟩ := (hΓ g s hg).pure _ hpre
  have hww : ∀ b, WW W objs L b → b < w.heap.size := by
    have hle : base ≤ w.heap.size := Nat.le_trans hO.fr.size0 hO.fr.size
    rintro b (hb | ⟨r', o', h1, h2⟩)
    · have := hO.under b hb; omega
    · exact (hO.ob r' o' h1).lt h2
  cases hs : s.scalar with
  | true =>
    rw [hs] at hlend
    have hra := relDA_relA (fun _ => False) (lend := true) hO (fun _ _ _ _ _ _ x => x) (fun _ x => x.elim) hr hlend
    refine (hcalls.run (fun _ => False) w vals (fun _ x => x.elim) (hO.gl.keep (Keeps.refl (WW W objs L) _).toKeepsC fun _ _ h => h.elim) hra).mono ?_
    rintro e w' ⟨v, rfl, hb, hv⟩
    obtain ⟨hO', hA⟩ := RelO.grow hO hb
    refine ⟨v, rfl, hO', hA, ?_⟩
    simp only [RelD]
    exact (scalar_rel _).1 _ w' w' (fun _ => False) (WW W objs L) v (Nat.lt_succ_self _) (hsc hs) hv
  | false =>
    rw [hs] at hlend
    have hra := relDA_relA (WW W objs L) (lend := false) hO (fun x => by cases x) (fun _ x => x) hr hlend
    refine (hcalls.run (WW W objs L) w vals hww hO.gl hra).mono ?_
    rintro e w' ⟨v, rfl, hb, hv⟩
    obtain ⟨hO', hA⟩ := RelO.grow hO hb
    exact ⟨v, rfl, hO', hA, by simp only [RelD]; exact hv⟩

theorem fresh_call {objs : Obs} {w : World} {L : Loc} (hO : RelO base W M w0 objs w L) {g : FuncId} {ds : List DV} {vals : Array Value} {lend : Bool} (hlend : tOks lend objs ds) {e sz : Nat} {rows : List (List T)} (hcalls : CallsF P g (tOfs objs ds) e sz rows) (hsc : lend = true → scalarT.scalarTs rows.flatten = true)
    (hr : RelDA w W objs L ds vals.toList) {name : Nat} (hname : objs name = none) : Calls P g vals w fun e' w' => ∃ v L', e' = .returned v ∧ RelO base W M w0 (putO objs (some (name, .arr 0 e sz rows))) w' L' ∧ Adv W objs L w (putO objs (some (name, .arr 0 e sz rows))) L' w' ∧ RelD w' W (putO objs (some (name, .arr 0 e sz rows))) L' (.aref name 0) v := by
  have hle : base ≤ w.heap.size := Nat.le_trans hO.fr.size0 hO.fr.size
  have hww : ∀ b, WW W objs L b → b < w.heap.size := by
    rintro b (hb | ⟨r', o', h1, h2⟩)
    · have := hO.under b hb; omega
    · exact (hO.ob r' o' h1).lt h2
  have hcl : Calls P g vals w fun e' w' => ∃ v, e' = .returned v ∧ BelD w.heap.size w w' ∧ FreshArr w.heap.size w' (WW W objs L) e sz rows v := by
    cases lend with
    | false =>
      have hra := relDA_relA (WW W objs L) (lend := false) hO (fun x => by cases x) (fun _ x => x) hr hlend
      exact hcalls.run (WW W objs L) w vals hww hO.gl hra
    | true =>
      have hra := relDA_relA (fun _ => False) (lend := true) hO (fun _ _ _ _ _ _ x => x) (fun _ x => x.elim) hr hlend
      refine (hcalls.run (fun _ => False) w vals (fun _ x => x.elim) (hO.gl.keep (Keeps.refl (WW W objs L) _).toKeepsC fun _ _ h => h.elim) hra).mono ?_
      rintro e' w' ⟨v, h1, h2, h3⟩
      refine ⟨v, h1, h2, h3.pos, h3.len, ?_⟩
      rcases h3.it with h4 | ⟨g', cap, cur, k1, k2, k3, k4, k5, k6, k7, k8⟩
      · exact .inl h4
      · exact .inr ⟨g', cap, cur, k1, k2, k3, k4, k5, k6, k7, ((scalar_rel _).2 _ w' w' _ _ _ (Nat.lt_succ_self _) (hsc rfl)).1 k8⟩
  refine hcl.mono ?_
  rintro e' w' ⟨v, rfl, hb, hf⟩
  have h := RelO.put hO (r := name) (L' := L.setSl name v) (o' := .arr 0 e sz rows) (hO.fr.trans ⟨hb.os, hb.tape, hb.output, hle, hb.size, fun k hk _ => hb.block k (by omega), hb.drawn⟩) hb.size (fun x hx => ⟨rfl, by simp [Loc.setSl, hx]⟩) rfl (fun b hlt _ => hb.block b hlt)
    (fun b h => .inr (by
      simp only [Loc.own, Loc.setSl, if_true] at h
      rcases hf.it with ⟨_, a, rfl⟩ | ⟨g', cap, cur, rfl, hp, hge, _⟩
      · cases a <;> simp [capBlock] at h
      · simp only [capBlock, if_neg (Nat.pos_iff_ne_zero.1 hp), Option.some.injEq] at h; omega))
    (fun o' h _ => by rw [hname] at h; cases h) (fun _ _ _ _ h => by rw [hname] at h; cases h) (fun adv => by
      refine ⟨hf.pos, hf.len, fun g' hg => ?_, ?_⟩
      · simp only [Loc.setSl, if_true] at hg
        rcases hf.it with ⟨_, a, rfl⟩ | ⟨g2, cap, cur, rfl, hp, hge, _⟩
        · cases a <;> simp [capBlock] at hg
        · simp only [capBlock, if_neg (Nat.pos_iff_ne_zero.1 hp), Option.some.injEq] at hg; exact .inl (by omega)
      · simp only [Loc.setSl, if_true]
        rcases hf.it with ⟨h1, a, h2⟩ | ⟨g2, cap, cur, h1, hp, hge, h2, h3, h4, h5, h6⟩
        · exact .inl ⟨h1, a, h2⟩
        · refine .inr ⟨g2, cap, cur, h1, hp, h2, h3, h4, h5, RelL.keep (Keeps.refl (fun b => WW W objs L b ∨ b = g2) w').toKeepsC (fun b _ hb => ?_) _ _ h6⟩
          rcases hb with hb | ⟨r', o', hr', hb⟩
          · exact .inl (.inl hb)
          · simp only [putO] at hr'
            split at hr'
            · rename_i e1
              cases hr'
              subst e1
              simp only [Loc.own, Loc.setSl, if_true, h1, capBlock, if_neg (Nat.pos_iff_ne_zero.1 hp), Option.some.injEq] at hb
              exact .inr hb.symm
            · rename_i hne
              refine .inl (.inr ⟨r', o', hr', ?_⟩)
              cases o' <;> simpa [Loc.own, Loc.setSl, hne] using hb)
  refine ⟨v, _, rfl, h.1, h.2, ?_⟩
  simp only [RelD]
  refine ⟨?_, 0, e, sz, rows, by simp [putO], Nat.le_refl _, fun _ => by simp [Loc.setSl]⟩
  rcases hf.it with ⟨_, a, rfl⟩ | ⟨g2, cap, cur, rfl, _⟩ <;> exact ⟨_, _, _, rfl⟩

theorem opds_relDA {objs : Obs} {w : World} {L : Loc} {a : Act} {ρ : Nat → DV} (hg : GOk w (WW W objs L)) (hρ : ∀ t, RelD w W objs L (ρ t) (a.tmps.getD t Go.undef)) {xs : List Operand} {ys : List Opd} (h : xs.mapM Opd.of = some ys) : RelDA w W objs L (ys.map (·.ev ρ)) (xs.map a.eval) := by
  refine ⟨by simp [mapM_of_length h], fun i d v hd hv => ?_⟩
  rw [List.getElem?_map, Option.map_eq_some_iff] at hd hv
  obtain ⟨y, hy, rfl⟩ := hd
  obtain ⟨x, hx, rfl⟩ := hv
  exact mapM_of_rel hg hρ h i x y hx hy
theorem RelDA.append {objs : Obs} {w : World} {L : Loc} {ds ds' : List DV} {vs vs' : List Value} (h : RelDA w W objs L ds vs) (k : RelDA w W objs L ds' vs') : RelDA w W objs L (ds ++ ds') (vs ++ vs') := by
  refine ⟨by simp [h.1, k.1], fun i d v hd hv => ?_⟩
  by_cases hi : i < ds.length
  · rw [List.getElem?_append_left hi] at hd
    rw [List.getElem?_append_left (by rw [h.1]; exact hi)] at hv
    exact h.2 i d v hd hv
  · rw [List.getElem?_append_right (by omega)] at hd
    rw [List.getElem?_append_right (by rw [h.1]; omega), h.1] at hv
    exact k.2 _ d v hd hv
theorem relDA_caps {objs : Obs} {w : World} {L : Loc} {ts : List T} {vs : List Value} (h : RelL w (WW W objs L) ts vs) : RelDA w W objs L (ts.map .v) vs := by
  refine ⟨by simp [RelL.length h], fun i d v hd hv => ?_⟩
  rw [List.getElem?_map, Option.map_eq_some_iff] at hd
  obtain ⟨t, ht, rfl⟩ := hd
  obtain ⟨v', hv', _, hr⟩ := RelL.get h ht
  rw [hv] at hv'
  cases hv'
  simpa [RelD] using hr

theorem relDA_dcaps {objs : Obs} {w : World} {L : Loc} {ds : List DV} {vs : List Value} (h : RelDs w W objs L ds vs) : RelDA w W objs L ds vs := by
  refine ⟨by simp [RelDs.length h], fun i d v hd hv => ?_⟩
  obtain ⟨v', hv', _, hr⟩ := RelDs.get h hd
  rw [hv] at hv'
  cases hv'
  exact hr

theorem compile_entry {o : Oper} {x : Opd} (hc : compileOp P o = some (.entryM x)) : ∃ y, o.op = .entry y ∧ Opd.of y = some x := by
  unfold compileOp at hc
  cases ho : o.op <;> simp only [ho, reduceCtorEq] at hc
  case entry y =>
    simp only [Option.map_eq_some_iff, DOp.entryM.injEq] at hc
    obtain ⟨y', hy, rfl⟩ := hc
    exact ⟨y, rfl, hy⟩
  case binOp op t x y yt =>
    exfalso
    simp only [Option.bind_eq_bind, Option.bind_eq_some_iff] at hc
    obtain ⟨x', hx, y', hy, hc⟩ := hc
    unfold compileBin at hc
    repeat' split at hc
    all_goals first | (cases hc; done) | (simp only [Option.map_eq_some_iff, reduceCtorEq, and_false, exists_false] at hc; done)
  case call c =>
    exfalso
    unfold compileCall at hc
    repeat' split at hc
    all_goals first
      | (cases hc; done)
      | (simp only [Option.map_eq_some_iff, Option.pure_def, Option.bind_eq_bind, Option.bind_eq_some_iff, Option.some.injEq, reduceCtorEq, and_false, exists_false] at hc; done)
  case slice t x lo hi mx =>
    exfalso
    cases mx with
    | some m => cases hc
    | none =>
      simp only at hc
      repeat' split at hc
      all_goals simp only [Option.map_eq_some_iff, Option.pure_def, Option.bind_eq_bind, Option.bind_eq_some_iff, Option.some.injEq, reduceCtorEq, and_false, exists_false] at hc
  case makeMap t h =>
    exfalso
    cases h with
    | some m => cases hc
    | none =>
      simp only at hc
      split at hc
      · simp only [Option.map_eq_some_iff, reduceCtorEq, and_false, exists_false] at hc
      · cases hc
  all_goals exfalso
  all_goals first
    | (simp only [Option.map_eq_some_iff, reduceCtorEq, and_false, exists_false] at hc; done)
    | (simp only [Option.pure_def, Option.bind_eq_bind, Option.bind_eq_some_iff, Option.some.injEq, reduceCtorEq, and_false, exists_false] at hc; done)
    | (repeat' split at hc) <;> first
        | (simp only [Option.map_eq_some_iff, Option.pure_def, Option.bind_eq_bind, Option.bind_eq_some_iff, Option.some.injEq, reduceCtorEq, and_false, exists_false] at hc; done)
        | (simp [Option.bind_eq_some_iff] at hc; done)

theorem eval_args {o : Oper} {a : Act} {w : World} {c : Call} (ho : o.op = .call c) {g : FuncId} {caps : Array Value} (hv : ∀ f, c.callee = .value f → a.eval f = .func (.func g) #[] caps) (hc : ∃ f, c.callee = .value f) (hg : Entry P g) :
    (execOp a.eval o).run P w = .ok (.enter g (c.args.map a.eval ++ caps)) w := by
  obtain ⟨f, hf⟩ := hc
  obtain ⟨fn, hfn, hne, hbo⟩ := hg
  simp [execOp, ho, resolve, hf, hv f hf, Deferred.ofValue, invoke, callFunc, hfn, hne]
  intro hnone
  simp [hnone] at hbo

theorem roundIn_wideR {ro : Option Nat} {n l : Nat} {fn : FuncId} {tmps : Array Value} {assign body : Code} {w : World} {R : Ending → World → Prop} (h : RoundIn Fence.wide 0 P l fn tmps assign body w R) :
    RoundIn (wideR ro) n P l fn tmps assign body w R := by
  have h0 : RoundIn Fence.wide n P l fn tmps assign body w R := ⟨h.1, fun c cs _ => h.2 c cs (by simp [Fence.room, Fence.wide])⟩
  exact h0

/-- A reading stays where the cells stay. -/
theorem relD_keepC {W : Nat → Prop} {objs : Obs} {L : Loc} {w w' : World} (hkc : KeepsC (WW W objs L) w w') : ∀ n, (∀ (d : DV) (x : Value), SizeOf.sizeOf d < n → RelD w W objs L d x → RelD w' W objs L d x) ∧ (∀ (ds : List DV) (xs : List Value), SizeOf.sizeOf ds < n → RelDs w W objs L ds xs → RelDs w' W objs L ds xs) ∧ (∀ (ds : List DV) (xs : List Value), SizeOf.sizeOf ds < n → RelDa w W objs L ds xs → RelDa w' W objs L ds xs) := by
  have hsub : ∀ b, b < w.heap.size → WW W objs L b → WW W objs L b := fun _ _ h => h
  intro n
  induction n with
  | zero => exact ⟨fun _ _ h => by omega, fun _ _ h => by omega, fun _ _ h => by omega⟩
  | succ n ih =>
    refine ⟨fun d x hn hx => ?_, fun ds xs hn hx => ?_, fun ds xs hn hx => ?_⟩
    · cases d with
      | v t => simp only [RelD] at hx ⊢; exact RelT.keep hkc hsub t x hx
      | tup cs =>
        simp only [RelD] at hx ⊢
        obtain ⟨vs, hv, hr⟩ := hx
        exact ⟨vs, hv, ih.2.2 cs _ (by simp at hn ⊢; omega) hr⟩
      | clo f cs =>
        simp only [RelD] at hx ⊢
        obtain ⟨vs, hv, hr⟩ := hx
        exact ⟨vs, hv, ih.2.1 cs _ (by simp at hn ⊢; omega) hr⟩
      | tptr rows i off =>
        simp only [RelD] at hx ⊢
        obtain ⟨b, o, sz, hx, hb, hn', hr, h1, h2⟩ := hx
        exact ⟨b, o, sz, hx, Nat.lt_of_lt_of_le hb hkc.size, hn', RelRows.keep hkc hsub hb hn' sz o rows hr, h1, h2⟩
      | bptr cs off =>
        simp only [RelD] at hx ⊢
        obtain ⟨b, o, hx, hb, hn', hr⟩ := hx
        exact ⟨b, o, hx, Nat.lt_of_lt_of_le hb hkc.size, hn', RelAt.keep hkc hsub hb hn' o cs hr⟩
      | agg cs =>
        simp only [RelD] at hx ⊢
        obtain ⟨vs, hv, hr⟩ := hx
        exact ⟨vs, hv, ih.2.1 cs _ (by simp at hn ⊢; omega) hr⟩
      | _ => exact hx
    · cases ds with
      | nil => simpa only [RelDs] using hx
      | cons d ds =>
        simp only [RelDs] at hx ⊢
        obtain ⟨y, ys, hv, h1, h2, h3⟩ := hx
        exact ⟨y, ys, hv, h1, ih.1 d y (by simp at hn ⊢; omega) h2, ih.2.1 ds ys (by simp at hn ⊢; omega) h3⟩
    · cases ds with
      | nil => simpa only [RelDa] using hx
      | cons d ds =>
        simp only [RelDa] at hx ⊢
        obtain ⟨y, ys, hv, h2, h3⟩ := hx
        exact ⟨y, ys, hv, ih.1 d y (by simp at hn ⊢; omega) h2, ih.2.2 ds ys (by simp at hn ⊢; omega) h3⟩

/-- A block that holds no cells is turned: the objects do not mind. -/
theorem putObj_cells {w : World} {l : Nat} {o o' : Obj} (hl : w.heap[l]? = some o) (hnc : ¬ Obj.plain o) : ∀ (b : Nat) x, Obj.plain x → w.heap[b]? = some x → (w.putObj l o').heap[b]? = some x := fun b x hx hb => by
  rw [World.putObj_heap_other (by rintro rfl; rw [hl] at hb; cases hb; exact hnc hx)]; exact hb
theorem relO_put {base : Nat} {W M : Nat → Prop} {w0 w : World} {objs : Obs} {L : Loc} (h : RelO base W M w0 objs w L) {l : Nat} {o o' : Obj} (hl : w.heap[l]? = some o) (hnc : ¬ Obj.plain o) (hb : base ≤ l) :
    RelO base W M w0 objs (w.putObj l o') L := by
  have hsz : (w.putObj l o').heap.size = w.heap.size := by simp [World.putObj]
  have hcells := putObj_cells (o' := o') hl hnc
  have hkc : KeepsC (WW W objs L) w (w.putObj l o') := ⟨by rw [hsz]; exact Nat.le_refl _, fun b c e fr hb _ => hcells b _ trivial hb⟩
  have f := h.fr
  refine ⟨⟨f.os, f.tape, f.output, f.size0, by rw [hsz]; exact f.size, fun k hk hm => ?_, f.drawn⟩, fun r o ho => ?_, h.apart, h.outer, h.under, h.gl.keep hkc fun _ _ h => h⟩
  · rw [World.putObj_heap_other (by omega)]; exact f.block k hk hm
  · have hob := h.ob r o ho
    cases o with
    | box cs =>
      obtain ⟨c, e, hc, hr, hm⟩ := hob
      exact ⟨c, e, hcells _ _ trivial hc, (relD_keepC hkc (SizeOf.sizeOf cs + 1)).2.1 cs _ (by omega) hr, hm⟩
    | map shs agg c es =>
      obtain ⟨arr, hc, hr, k1, k2, k3, hm⟩ := hob
      refine ⟨arr, hcells _ _ trivial hc, ?_, k1, k2, k3, hm⟩
      have key : ∀ (es : List (Nat × T × DV)) (xs : List MapEntry), RelEs w W objs L es xs → RelEs (w.putObj l o') W objs L es xs := by
        intro es
        induction es with
        | nil => intro xs h; simpa only [RelEs] using h
        | cons e es ih =>
          intro xs h
          simp only [RelEs] at h ⊢
          obtain ⟨x, xs', hx, h1, h2, h3, h4⟩ := h
          exact ⟨x, xs', hx, h1, RelT.keep hkc (fun _ _ h => h) _ _ h2, (relD_keepC hkc (SizeOf.sizeOf e.2.2 + 1)).1 _ _ (by omega) h3, ih xs' h4⟩
      exact key es _ hr
    | iter m s sn lt =>
      obtain ⟨hc, hmp, hm⟩ := hob
      exact ⟨hcells _ _ trivial hc, hmp, hm⟩
    | arr ver e sz rows =>
      obtain ⟨g1, g2, g3, g4⟩ := hob
      refine ⟨g1, g2, g3, ?_⟩
      rcases g4 with g4 | ⟨g, cap, cur, hv, hp, hh, k1, k2, k3, k4⟩
      · exact .inl g4
      · exact .inr ⟨g, cap, cur, hv, hp, hcells _ _ trivial hh, k1, k2, k3, RelL.keep hkc (fun _ _ h => h) _ _ k4⟩

/-- The record is turned in both worlds. -/
theorem Adv.putLoop {V : Nat → Prop} {go objs : Obs} {gL L : Loc} {gw w : World} {l : Nat} {r r' : Loop} (hg : l < gw.heap.size) (h : Adv V go gL (gw.putObj l (.loop r)) objs L w) :
    Adv V go gL (gw.putObj l (.loop r')) objs L (w.putObj l (.loop r')) := by
  have hl : w.heap[l]? = some (.loop r) := h.keeps.lps _ _ (World.putObj_heap_same hg)
  have hlw := (Array.getElem?_eq_some_iff.1 hl).1
  have s1 : (gw.putObj l (.loop r')).heap.size = gw.heap.size := by simp [World.putObj]
  have s2 : (gw.putObj l (.loop r)).heap.size = gw.heap.size := by simp [World.putObj]
  have s3 : (w.putObj l (.loop r')).heap.size = w.heap.size := by simp [World.putObj]
  have g1 : (gw.putObj l (.loop r')).heap[l]? = some (.loop r') := World.putObj_heap_same hg
  have g3 : (w.putObj l (.loop r')).heap[l]? = some (.loop r') := World.putObj_heap_same hlw
  have o1 : ∀ b, b ≠ l → (gw.putObj l (.loop r')).heap[b]? = (gw.putObj l (.loop r)).heap[b]? := fun b hb => (World.putObj_heap_other hb).trans (World.putObj_heap_other hb).symm
  have o3 : ∀ b, b ≠ l → (w.putObj l (.loop r')).heap[b]? = w.heap[b]? := fun b hb => World.putObj_heap_other hb
  have hk := h.keeps.size
  refine ⟨⟨⟨by rw [s1, s3]; rw [s2] at hk; exact hk, fun b c e fr hb hn => ?_⟩, fun b hb => ?_, fun b rr hb => ?_⟩, fun b hb hw => ?_, h.fix, h.arr, h.yl⟩
  · have hne : b ≠ l := by rintro rfl; rw [g1] at hb; cases hb
    rw [o1 b hne] at hb
    rw [o3 b hne]
    exact h.keeps.blk b c e fr hb hn
  · have hne : b ≠ l := by rintro rfl; rw [g1] at hb; cases hb
    rw [o1 b hne] at hb
    rw [o3 b hne]
    exact h.keeps.dfr b hb
  · by_cases hne : b = l
    · subst hne
      rw [g1] at hb
      rw [g3]
      exact hb
    · rw [o1 b hne] at hb
      rw [o3 b hne]
      exact h.keeps.lps b rr hb
  · rw [s1] at hb
    exact h.sub b (by rw [s2]; exact hb) hw

/-- What one operation does, in the model. -/
theorem op_wpIn {ro : Option Nat} {n : Nat} (hΓ : EnvOk P Γ) (hκ : κ.Good P) {o : Oper} {r : RO} (hc : compileOp P o = some (bareD r.d)) (hdst : r.dst = o.dst) {st : RS} {a : Act} {w : World} {L : Loc} (h : RelR κ nt st a w L) (hd : ∀ d, r.dst = some d → d < nt)
    (hname : st.objs (nameOf nxt r.dst) = none) (hok : (post Γ nxt r st).ok) {K : Act → World → Prop} {Q : Exit → Act → World → Prop}
    (hK : ∀ a' w' L', RelR κ nt ⟨updT st.tmps r.dst (post Γ nxt r st).val, (post Γ nxt r st).objs, (post Γ nxt r st).todo⟩ a' w' L' → K a' w') :
    o.wpIn (wideR ro) n P a w K Q := by
  have hR := h
  obtain ⟨⟨W, base, M, w0, hat, h0⟩, hadv, hdf, hbg, hfin⟩ := h
  refine ⟨about_wide o w _, ?_⟩
  have hnd : ∀ c, o.op ≠ .defer c := compile_nodefer hc
  rw [show (wideR ro).round = ro from rfl, Oper.semAt_eq ro _ o hnd]
  by_cases h4 : is4 r.d = true
  · unfold post at hok hK
    rw [if_pos h4] at hok hK
    cases hrd : r.d <;> rw [hrd] at h4 <;> first | (simp [is4] at h4; done) | skip
    case callS f args =>
      rw [hrd] at hc hok hK
      obtain ⟨c, ho, hcc⟩ := compile_call hc (.inl ⟨f, args, rfl⟩)
      obtain ⟨fn, hcal, hfn, hne, hbo, hys⟩ := callee_call hcc
      have hrun := eval_args (P := P) (w := w) (a := a) (g := f) (caps := #[]) ho (fun x hx => by rw [hcal] at hx; cases hx; rfl) ⟨_, hcal⟩ ⟨fn, hfn, hne, hbo⟩
      rw [Array.append_empty] at hrun
      rw [hrun, Oper.uponIn_enter]
      refine ⟨fun hx => (by cases hx), callsIn_wideR ?_⟩
      simp only [semS] at hok hK
      cases hg : Γ f with
      | none => simp [hg] at hok
      | some s =>
        simp only [hg] at hok hK
        cases hk : s.st with
        | none => simp [hk] at hok
        | some k =>
          simp only [hk] at hok hK
          obtain ⟨hcl, hno⟩ := (hΓ f s hg).st k hk _ _ hok
          obtain ⟨N, hN⟩ := hfin
          have hcl := hcl N hN
          refine (hcl.run base W M w0 w L (c.args.map a.eval) h0.o (by simpa using opds_relDA h0.o.gl h0.tmps hys)).mono ?_
          rintro e w' ⟨v, L', rfl, hO, hA, hv⟩
          have := hK _ _ _ (RelR.put hR hat h0 r.dst hd hO hA hv ⟨N, fun r hr => hno r (hN r hr)⟩)
          rw [← hdst]
          exact this
    case callv x args =>
      rw [hrd] at hc hok hK
      obtain ⟨c, ho, hcc⟩ := compile_call hc (.inr (.inr (.inl ⟨_, _, rfl⟩)))
      obtain ⟨t, hcal, rfl, hys⟩ := callee_callv hcc
      have ht := h0.tmps t
      simp only [semS, show Opd.ev st.tmps (.tmp t) = st.tmps t from rfl] at hok hK
      cases hv : st.tmps t with
      | v tv =>
        rw [hv] at ht hok hK
        cases tv with
        | fn fv caps =>
          cases fv with
          | func g =>
            simp only at hok hK
            simp only [RelD, RelT] at ht
            obtain ⟨vs, hx, hcaps⟩ := ht
            cases hg : Γ g with
            | none => simp [hg] at hok
            | some s =>
              simp only [hg] at hok hK
              cases hk : s.st with
              | none =>
                simp only [hk] at hok hK
                unfold callSem at hok hK
                simp only [hg] at hok hK
                obtain ⟨hlend, hpre⟩ := hok
                have hrun := eval_args (P := P) (w := w) (a := a) (g := g) (caps := vs) ho (fun x hx' => by rw [hcal] at hx'; cases hx'; exact hx) ⟨_, hcal⟩ ((hΓ g s hg).pure _ hpre).1.entry
                rw [hrun, Oper.uponIn_enter]
                refine ⟨fun hx => (by cases hx), callsIn_wideR ?_⟩
                have hda : RelDA w W st.objs L (args.map (·.ev st.tmps) ++ caps.map .v) (c.args.map a.eval ++ vs).toList := by
                  simpa using RelDA.append (opds_relDA h0.o.gl h0.tmps hys) (relDA_caps hcaps)
                refine (pure_call hΓ h0.o hg hlend hpre hda).mono ?_
                rintro e w' ⟨v, rfl, hO, hA, hv'⟩
                have := hK _ _ _ (RelR.put hR hat h0 r.dst hd hO hA hv' hfin)
                rw [← hdst]
                exact this
              | some k =>
                simp only [hk] at hok hK
                obtain ⟨hcl, hno⟩ := (hΓ g s hg).st k hk _ _ hok
                obtain ⟨N, hN⟩ := hfin
                have hcl := hcl N hN
                have hrun := eval_args (P := P) (w := w) (a := a) (g := g) (caps := vs) ho (fun x hx' => by rw [hcal] at hx'; cases hx'; exact hx) ⟨_, hcal⟩ hcl.entry
                rw [hrun, Oper.uponIn_enter]
                refine ⟨fun hx => (by cases hx), callsIn_wideR ?_⟩
                have hda : RelDA w W st.objs L (args.map (·.ev st.tmps) ++ caps.map .v) (c.args.map a.eval ++ vs).toList := by
                  simpa using RelDA.append (opds_relDA h0.o.gl h0.tmps hys) (relDA_caps hcaps)
                refine (hcl.run base W M w0 w L _ h0.o hda).mono ?_
                rintro e w' ⟨v, L', rfl, hO, hA, hv'⟩
                have := hK _ _ _ (RelR.put hR hat h0 r.dst hd hO hA hv' ⟨N, fun r hr => hno r (hN r hr)⟩)
                rw [← hdst]
                exact this
          | _ => simp at hok
        | raw rv =>
          simp only at hok hK
          cases hyk : (YieldK.k : Option (Nat × (List DV → Obs → SRes))) with
          | none => simp [hyk] at hok
          | some p =>
            obtain ⟨l, k⟩ := p
            simp only [hyk] at hok hK
            obtain ⟨hrv, htd, hkok, hkb⟩ := hok
            subst hrv
            simp only [RelD, RelT] at ht
            cases hJ : κ.J with
            | some J =>
              have := (hκ.y J hJ).2.1
              rw [hyk] at this
              cases this
            | none =>
              have hat' := hat
              unfold Ctx.At at hat'
              simp only [hJ] at hat'
              obtain ⟨ht0, rfl, rfl, rfl, rfl⟩ := hat'
              cases hY : κ.Y with
              | none => exact absurd (ht0 hY) htd
              | some p =>
                obtain ⟨l', r1, s1⟩ := p
                obtain ⟨hb, hg, k', hk', hys'⟩ := hκ.ys l' r1 s1 hY
                rw [hyk] at hk'
                cases hk'
                have hgw : κ.gwT st.todo = κ.gw.putObj l (.loop r1) := by
                  cases htd2 : st.todo with
                  | nil => exact absurd htd2 htd
                  | cons _ _ => simp only [Ctx.gwT, hY]
                rw [hgw] at hadv
                have hltg := (Array.getElem?_eq_some_iff.1 hg).1
                have hlw : w.heap[l]? = some (.loop r1) := hadv.keeps.lps _ _ (World.putObj_heap_same hltg)
                have hda : RelDA w κ.W st.objs L (args.map (·.ev st.tmps)) (c.args.map a.eval).toList := by
                  simpa using opds_relDA h0.o.gl h0.tmps hys
                obtain ⟨fn, tmps, assign, body, hyr, hround⟩ := hys'.round w L st.objs _ (c.args.map a.eval) hkok hkb hfin hlw (by rw [World.putObj_self hg] at hadv; exact hadv) h0.o hda
                have hrun : (execOp a.eval o).run P w = .ok (.round l fn tmps assign body) w := by
                  have : a.eval (.tmp t) = .func (.yield l) #[] #[] := ht
                  simp [execOp, ho, resolve, hcal, this, Deferred.ofValue, invoke, hyr]
                rw [hrun, Oper.uponIn_round]
                refine ⟨fun hx => (by cases hx), roundIn_wideR ?_⟩
                refine hround.mono ?_
                rintro e B ⟨rfl, L', hO', hA'⟩
                obtain ⟨r2, hr2⟩ : ∃ r2, (if yGo (k (args.map (·.ev st.tmps)) st.objs).val = true then r1 else s1) = r2 := ⟨_, rfl⟩
                rw [hr2] at hA'
                have hnl : ¬ Obj.plain (.loop r1) := fun e => e
                have hkc : KeepsC (WW κ.W st.objs L) w (w.putObj l (.loop r2)) := ⟨by simp [World.putObj], fun b c e fr hb _ => putObj_cells hlw hnl b _ trivial hb⟩
                have h1 : R0 κ.base κ.W κ.M κ.w0 nt st.tmps st.objs a (w.putObj l (.loop r2)) L := ⟨h0.size, fun t => (relD_keepC hkc (SizeOf.sizeOf (st.tmps t) + 1)).1 (st.tmps t) _ (Nat.lt_succ_self _) (h0.tmps t), relO_put h0.o hlw hnl hb⟩
                obtain ⟨Ds, hDs, hDn, hDk, hDJ⟩ := hdf
                obtain ⟨N, hN⟩ := hfin
                obtain ⟨go, hgo⟩ : ∃ go, yGo (k (args.map (·.ev st.tmps)) st.objs).val = go := ⟨_, rfl⟩
                have hval : (k (args.map (·.ev st.tmps)) st.objs).val = .v (.bool go) := by
                  rw [← hgo]
                  revert hkb
                  cases (k (args.map (·.ev st.tmps)) st.objs).val with
                  | v x => cases x <;> simp [yIs, yGo]
                  | _ => simp [yIs]
                rw [hgo] at hr2
                simp only [hval, yGo_bool] at hK
                have hR : RelR κ nt ⟨updT st.tmps r.dst (.v (.bool go)), (k (args.map (·.ev st.tmps)) st.objs).objs, if go = true then st.todo else []⟩ (a.put r.dst (.bool go)) B L' := by
                  refine ⟨⟨κ.W, κ.base, κ.M, κ.w0, ?_, h1.put r.dst hd hO' hA' (by simp [RelD, RelT])⟩, ?_, ⟨Ds, by rw [put_defers]; exact hDs, hDn, fun D hD => ⟨hA'.keeps.dfr D ?_, (hDk D hD).2⟩, hDJ⟩, hbg, ⟨N, fun x hx => YieldK.names _ _ hyk _ _ hkok x (hN x hx)⟩⟩
                  · unfold Ctx.At
                    simp only [hJ]
                    exact ⟨(fun h => by rw [hY] at h; cases h), trivial, trivial, trivial, trivial⟩
                  · have hg2 : κ.gwT (if go = true then st.todo else []) = κ.gw.putObj l (.loop r2) := by
                      rw [← hr2]
                      cases go
                      · simp [Ctx.gwT, hY]
                      · rw [if_pos rfl, hgw]
                        simp
                    rw [hg2]
                    exact (Adv.putLoop hltg hadv).comp hA' (fun _ h => .inl h) (fun _ h => h)
                  · rw [World.putObj_heap_other (by rintro rfl; rw [(hDk _ hD).1] at hlw; cases hlw)]
                    exact (hDk D hD).1
                have := hK _ _ _ hR
                rw [← hdst, hgo]
                exact this
        | _ => simp at hok
      | yld =>
        rw [hv] at ht hok hK
        simp only [RelD] at ht
        cases htd : st.todo with
        | nil => simp [htd] at hok
        | cons y rest =>
          simp only [htd] at hok hK
          obtain ⟨hyk, hlend, harg, hobj⟩ := hok
          rw [htd] at hat
          unfold Ctx.At at hat
          cases hJ : κ.J with
          | none =>
            simp only [hJ] at hat
            have hY : κ.Y = none := by
              cases hY : κ.Y with
              | none => rfl
              | some p => obtain ⟨_, _, k, hk, _⟩ := hκ.ys p.1 p.2.1 p.2.2 hY; rw [hyk] at hk; cases hk
            exact absurd (hat.1 hY) (by simp)
          | some J =>
            simp only [hJ] at hat
            obtain ⟨hj, rfl, rfl, hw1, hw2⟩ := hat
            have hY := (hκ.y J hJ).2.2
            rw [Ctx.gwT_none hY] at hadv
            have hy := (hκ.y J hJ).1
            have hbw : BelD w0.heap.size w0 w := ⟨⟨h0.o.fr.os, h0.o.fr.tape, h0.o.fr.output, h0.o.fr.size, fun k hk => h0.o.fr.block k hk (fun x => x)⟩, h0.o.fr.drawn⟩
            have hjw := hy.stays W (y :: rest) w0 w hj hbw
            have hww : ∀ b, WW W st.objs L b → W b := by
              rintro b (hb | ⟨r', o', h1, _⟩)
              · exact hb
              · rw [hobj] at h1; cases h1
            have hra : RelA w W y (c.args.map a.eval).toList := by
              rw [← harg]
              have := relDA_relA W (lend := false) h0.o (fun x => by cases x) (fun b hb => .inl hb) (opds_relDA h0.o.gl h0.tmps hys) hlend
              simpa using this
            obtain ⟨fn, tmps, assign, body, hyr, hround⟩ := hy.round W y rest (c.args.map a.eval) w hjw hra
            have hrun : (execOp a.eval o).run P w = .ok (.round L.yl fn tmps assign body) w := by
              rw [← hadv.yl] at hyr
              have : a.eval (.tmp t) = .func (.yield L.yl) #[] #[] := ht
              simp [execOp, ho, resolve, hcal, this, Deferred.ofValue, invoke, hyr]
            rw [hrun, Oper.uponIn_round]
            refine ⟨fun hx => (by cases hx), roundIn_wideR ?_⟩
            rw [← hadv.yl] at hround
            refine hround.mono ?_
            rintro e B ⟨rfl, W', hj', hk', hb', hmono⟩
            have hlow : ∀ b, W b → b < w.heap.size := fun b hb => by
              have h1 := h0.o.under b hb
              have h2 := h0.o.fr.size
              omega
            have hA0 : Adv W st.objs L w st.objs L B := Adv.refl_of_keeps (hk'.mono fun b hb => .inl hb)
            obtain ⟨Ds, hDs, hDn, hDk, hDJ⟩ := hdf
            have hadv2 : Adv2 W W' st.objs L w st.objs L B := by
              refine ⟨hk'.mono fun b hb => .inl hb, fun b hb hw => ?_, fun r o hr _ => ⟨rfl, o, hr, rfl⟩, fun r ver e sz rows hr => ⟨ver, e, sz, rows, hr, Nat.le_refl _, fun _ => ⟨rfl, rfl, rfl⟩⟩, rfl⟩
              rcases hw with hw | ⟨r', o', h1, _⟩
              · rcases (hb' b hw).2 with h2 | h2
                · exact .inl h2
                · omega
              · rw [hobj] at h1; cases h1
            have move : ∀ (d : DV) (x : Value), RelD w W st.objs L d x → RelD B W' st.objs L d x := RelD.adv hadv2
            have hO' : RelO B.heap.size W' (fun _ => False) B st.objs B L := by
              refine ⟨Fr.refl (Nat.le_refl _), fun r o ho => ?_, fun r r' o o' b _ ho => ?_, fun r o b ho => ?_, fun b hb => (hb' b hb).1, h0.o.gl.keep hadv2.keeps.toKeepsC hadv2.sub⟩
              all_goals rw [hobj] at ho; cases ho
            have hR : RelR κ nt ⟨updT st.tmps r.dst (.v (.bool true)), st.objs, rest⟩ (a.put r.dst (.bool true)) B L := by
              refine ⟨⟨W', B.heap.size, fun _ => False, B, ?_, ?_⟩, (by rw [Ctx.gwT_none hY]; exact hadv.comp hA0 hw1 hw2), ⟨Ds, by rw [put_defers]; exact hDs, hDn, fun D hD => ⟨hk'.dfr D (hDk D hD).1, (hDk D hD).2⟩, hDJ⟩, hbg, hfin⟩
              · unfold Ctx.At
                simp only [hJ]
                refine ⟨hj', trivial, trivial, fun b hb => ?_, fun b hb => hmono b (hw2 b hb)⟩
                rcases (hb' b hb).2 with h1 | h1
                · exact hw1 b h1
                · exact .inr (Nat.le_trans hadv.keeps.size h1)
              · have h1 : R0 B.heap.size W' (fun _ => False) B nt st.tmps st.objs a B L := ⟨h0.size, fun t => move _ _ (h0.tmps t), hO'⟩
                exact h1.put r.dst hd hO' (Adv.refl_of_keeps (Keeps.refl _ _)) (by simp [RelD, RelT])
            have := hK _ _ _ hR
            rw [← hdst]
            exact this
      | clo fv caps =>
        rw [hv] at ht hok hK
        cases fv with
        | func g =>
          simp only at hok hK
          simp only [RelD] at ht
          obtain ⟨vs, hx, hcaps⟩ := ht
          cases hg : Γ g with
          | none => simp [hg] at hok
          | some s =>
            simp only [hg] at hok hK
            cases hk : s.st with
            | none => simp [hk] at hok
            | some k =>
              simp only [hk] at hok hK
              obtain ⟨hcl, hno⟩ := (hΓ g s hg).st k hk _ _ hok
              obtain ⟨N, hN⟩ := hfin
              have hcl := hcl N hN
              have hrun := eval_args (P := P) (w := w) (a := a) (g := g) (caps := vs) ho (fun x hx' => by rw [hcal] at hx'; cases hx'; exact hx) ⟨_, hcal⟩ hcl.entry
              rw [hrun, Oper.uponIn_enter]
              refine ⟨fun hx => (by cases hx), callsIn_wideR ?_⟩
              have hda : RelDA w W st.objs L (args.map (·.ev st.tmps) ++ caps) (c.args.map a.eval ++ vs).toList := by
                simpa using RelDA.append (opds_relDA h0.o.gl h0.tmps hys) (relDA_dcaps hcaps)
              refine (hcl.run base W M w0 w L _ h0.o hda).mono ?_
              rintro e w' ⟨v, L', rfl, hO, hA, hv'⟩
              have := hK _ _ _ (RelR.put hR hat h0 r.dst hd hO hA hv' ⟨N, fun r hr => hno r (hN r hr)⟩)
              rw [← hdst]
              exact this
        | _ => simp at hok
      | _ => rw [hv] at hok; simp at hok
    case entryM x =>
      rw [hrd] at hc hok hK
      have hc' : compileOp P o = some (.entryM x) := hc
      obtain ⟨y, ho, hy⟩ := compile_entry hc'
      simp only [semS] at hok hK
      obtain ⟨nx, v, w', L', hrun, hnx, hO, hA, hv⟩ := entryM_sound h0.o ho (Opd.of_rel h0.o.gl h0.tmps hy) hok
      have hput : (entryMSem st.objs (x.ev st.tmps)).put = none := by unfold entryMSem; (repeat' split) <;> rfl
      rw [hput] at hO hA hv
      rw [hrun]
      rcases hnx with rfl | ⟨rfl, rfl⟩
      · rw [Oper.uponIn_value, ← hdst]
        exact hK _ _ _ (RelR.put hR hat h0 r.dst hd hO hA hv hfin)
      · rw [Oper.uponIn_skip, ← hdst]
        exact hK _ _ _ (RelR.put hR hat h0 r.dst hd hO hA hv hfin)
  · have h4' : is4 r.d = false := by simpa using h4
    have hc0 := hc
    have hbdF : ∀ f args, r.d = .callF f args → bareD r.d = .call f args := fun f args h => by rw [h]; rfl
    unfold post at hok hK
    rw [if_neg h4] at hok hK
    simp only at hok hK
    by_cases hcall : ∃ f args, r.d = .call f args
    · obtain ⟨f, args, hfa⟩ := hcall
      rw [hfa] at hc
      obtain ⟨c, ho, hcc⟩ := compile_call hc (.inl ⟨f, args, rfl⟩)
      obtain ⟨fn, hcal, hfn, hne, hbo, hys⟩ := callee_call hcc
      have hrun := eval_args (P := P) (w := w) (a := a) (g := f) (caps := #[]) ho (fun x hx => by rw [hcal] at hx; cases hx; rfl) ⟨_, hcal⟩ ⟨fn, hfn, hne, hbo⟩
      rw [Array.append_empty] at hrun
      rw [hrun, Oper.uponIn_enter]
      refine ⟨fun hx => (by cases hx), callsIn_wideR ?_⟩
      simp only [eff, hfa, sem, callSem] at hok hK
      cases hg : Γ f with
      | none => simp [hg, bad] at hok
      | some s =>
        simp only [hg] at hok hK
        obtain ⟨hlend, hpre⟩ := hok
        refine (pure_call hΓ h0.o hg hlend hpre (vals := c.args.map a.eval) (by simpa using opds_relDA h0.o.gl h0.tmps hys)).mono ?_
        rintro e w' ⟨v, rfl, hO, hA, hv'⟩
        have := hK _ _ _ (RelR.put hR hat h0 r.dst hd hO hA hv' hfin)
        rw [← hdst]
        exact this
    · by_cases hcallF : ∃ f args, r.d = .callF f args
      · obtain ⟨f, args, hfa⟩ := hcallF
        have hc2 : compileOp P o = some (.call f args) := by rw [← hbdF f args hfa]; exact hc0
        obtain ⟨c, ho, hcc⟩ := compile_call hc2 (.inl ⟨f, args, rfl⟩)
        obtain ⟨fn, hcal, hfn, hne, hbo, hys⟩ := callee_call hcc
        have hrun := eval_args (P := P) (w := w) (a := a) (g := f) (caps := #[]) ho (fun x hx => by rw [hcal] at hx; cases hx; rfl) ⟨_, hcal⟩ ⟨fn, hfn, hne, hbo⟩
        rw [Array.append_empty] at hrun
        rw [hrun, Oper.uponIn_enter]
        refine ⟨fun hx => (by cases hx), callsIn_wideR ?_⟩
        simp only [eff, hfa, sem, callFSem] at hok hK
        cases hg : Γ f with
        | none => simp [hg, bad] at hok
        | some s =>
          simp only [hg] at hok hK
          cases hfr : s.fresh with
          | none => simp [hfr, bad] at hok
          | some q =>
            obtain ⟨e, sz⟩ := q
            simp only [hfr] at hok hK
            cases hrw : s.fn (tOfs st.objs (args.map (·.ev st.tmps))) <;> simp only [hrw, bad] at hok hK <;> try exact hok.elim
            rename_i rows
            obtain ⟨hlend, hpre⟩ := hok
            obtain ⟨rows', h1, h2, h3⟩ := (hΓ f s hg).fresh e sz hfr _ hpre
            rw [hrw] at h1
            cases h1
            refine (fresh_call h0.o hlend h2 h3 (vals := c.args.map a.eval) (by simpa using opds_relDA h0.o.gl h0.tmps hys) hname).mono ?_
            rintro e' w' ⟨v, L', rfl, hO, hA, hv'⟩
            have hfin' : ∃ N, ∀ r', N ≤ r' → (putO st.objs (some (nameOf nxt r.dst, .arr 0 e sz rows))) r' = none := by
              obtain ⟨N, hN⟩ := hfin
              refine ⟨max N (nameOf nxt r.dst + 1), fun r' hr' => ?_⟩
              simp only [putO]
              rw [if_neg (by omega)]
              exact hN r' (by omega)
            have := hK _ _ _ (RelR.put hR hat h0 r.dst hd hO hA hv' hfin')
            rw [← hdst]
            exact this
      by_cases hcallR : ∃ f args, r.d = .callR f args
      · obtain ⟨f, args, hfa⟩ := hcallR
        have hc2 : compileOp P o = some (.call f args) := by rw [show (DOp.call f args) = bareD r.d by rw [hfa]; rfl]; exact hc0
        obtain ⟨c, ho, hcc⟩ := compile_call hc2 (.inl ⟨f, args, rfl⟩)
        obtain ⟨fn, hcal, hfn, hne, hbo, hys⟩ := callee_call hcc
        have hrun := eval_args (P := P) (w := w) (a := a) (g := f) (caps := #[]) ho (fun x hx => by rw [hcal] at hx; cases hx; rfl) ⟨_, hcal⟩ ⟨fn, hfn, hne, hbo⟩
        rw [Array.append_empty] at hrun
        rw [hrun, Oper.uponIn_enter]
        refine ⟨fun hx => (by cases hx), callsIn_wideR ?_⟩
        simp only [eff, hfa, sem, callRSem] at hok hK
        cases hg : Γ f with
        | none => simp [hg, bad] at hok
        | some s =>
          simp only [hg] at hok hK
          cases hk : s.st with
          | none => simp [hk, bad] at hok
          | some k =>
            simp only [hk] at hok hK
            obtain ⟨hok1, hobj, hval⟩ := hok st.objs (fun _ _ => rfl)
            obtain ⟨hcl, hno⟩ := (hΓ f s hg).st k hk _ _ hok1
            obtain ⟨N, hN⟩ := hfin
            have hcl := hcl N hN
            refine (hcl.run base W M w0 w L (c.args.map a.eval) h0.o (by simpa using opds_relDA h0.o.gl h0.tmps hys)).mono ?_
            rintro e w' ⟨v, L', rfl, hO, hA, hv⟩
            rw [hobj] at hO hA hv
            rw [hval] at hv
            have := hK _ _ _ (RelR.put hR hat h0 r.dst hd hO hA hv ⟨N, hN⟩)
            rw [← hdst]
            exact this
      by_cases hmkB : ∃ e sz by' zero n, r.d = .mkSliceB e sz by' zero n
      · obtain ⟨e, sz, by', zero, n, hfa⟩ := hmkB
        have hc2 : compileOp P o = some (.mkSlice e sz by' zero n) := by rw [show (DOp.mkSlice e sz by' zero n) = bareD r.d by rw [hfa]; rfl]; exact hc0
        simp only [eff, hfa, sem] at hok hK
        obtain ⟨nx, v, w', L', hrun, hnx, hO, hA, hv⟩ := mkB_sound h0.o hc2 h0.tmps hname hok
        have hfin' : ∃ N, ∀ r', N ≤ r' → (putO st.objs (makeBSem sz by' zero (nameOf nxt r.dst) (n.ev st.tmps)).put) r' = none := by
          obtain ⟨N, hN⟩ := hfin
          cases hp : (makeBSem sz by' zero (nameOf nxt r.dst) (n.ev st.tmps)).put with
          | none => exact ⟨N, hN⟩
          | some q =>
            obtain ⟨t, o'⟩ := q
            refine ⟨max N (t + 1), fun r' hr' => ?_⟩
            simp only [putO]
            rw [if_neg (by omega)]
            exact hN r' (by omega)
        rw [hrun]
        rcases hnx with rfl | ⟨rfl, rfl⟩
        · rw [Oper.uponIn_value, ← hdst]
          exact hK _ _ _ (RelR.put hR hat h0 r.dst hd hO hA hv hfin')
        · rw [Oper.uponIn_skip, ← hdst]
          exact hK _ _ _ (RelR.put hR hat h0 r.dst hd hO hA hv hfin')
      have hbd : bareD r.d = r.d := by
        cases hrd : r.d <;> rw [hrd] at h4' hcallF hcallR hmkB <;> first | rfl | (simp [is4] at h4'; done) | exact absurd ⟨_, _, rfl⟩ hcallF | exact absurd ⟨_, _, rfl⟩ hcallR | exact absurd ⟨_, _, _, _, _, rfl⟩ hmkB
      rw [hbd] at hc
      have hfin' : ∃ N, ∀ r', N ≤ r' → (putO st.objs (eff Γ nxt r st).put) r' = none := by
        obtain ⟨N, hN⟩ := hfin
        cases hp : (eff Γ nxt r st).put with
        | none => exact ⟨N, hN⟩
        | some q =>
          obtain ⟨t, o'⟩ := q
          refine ⟨max N (t + 1), fun r' hr' => ?_⟩
          simp only [putO]
          rw [if_neg (by omega)]
          exact hN r' (by omega)
      obtain ⟨nx, v, w', L', hrun, hnx, hO, hA, hv⟩ := op_sound (Γ := Γ) (name := nameOf nxt r.dst) hc (fun f args e => hcall ⟨f, args, e⟩) h0.tmps h0.o hname hok
      rw [hrun]
      rcases hnx with rfl | ⟨rfl, rfl⟩
      · rw [Oper.uponIn_value, ← hdst]
        exact hK _ _ _ (RelR.put hR hat h0 r.dst hd hO hA hv hfin')
      · rw [Oper.uponIn_skip, ← hdst]
        exact hK _ _ _ (RelR.put hR hat h0 r.dst hd hO hA hv hfin')
end
end Go.DM
/- The D-machine, part K: operations of one region that do not touch one another may change places. Conditions: none. -/
namespace Go.DM
open Go.RowKit
set_option linter.unusedSimpArgs false
set_option linter.unusedVariables false
set_option linter.unusedSectionVars false
variable [Laid]

/-- 0: it neither reads nor writes objects; 1: it reads them; 2: it lays a new one; 3: it writes one; 4: it may do anything. -/
def cls : DOp → Nat
  | .alloc _ | .box _ | .mkSlice .. | .mkSliceB .. | .mkMap .. => 2
  | .store .. | .append .. | .mapUpd .. | .mapEnt .. | .entSt .. | .mapDel .. | .copy .. | .rangeM _ | .callF .. => 3
  | .load .. | .eqT .. | .idxAddr .. | .len _ | .call .. | .callR .. | .slice .. | .lookup .. | .lenM _ | .isNil .. => 1
  | .callS .. | .callv .. | .entryM _ => 4
  | _ => 0

section
variable {Γ : Env} {d : DOp} {name : Nat} {ρ ρ' : Nat → DV} {objs objs' : Obs}

theorem map_ev_congr {xs : List Opd} (h : ∀ x ∈ xs, x.ev ρ = x.ev ρ') : xs.map (·.ev ρ) = xs.map (·.ev ρ') := List.map_congr_left h

theorem sem_reads (h : ∀ x ∈ opdsOf d, x.ev ρ = x.ev ρ') : sem Γ d name ρ objs = sem Γ d name ρ' objs := by
  cases d
  case build z ps =>
    have : ps.map (fun p => (p.1, p.2.1, p.2.2.ev ρ)) = ps.map (fun p => (p.1, p.2.1, p.2.2.ev ρ')) := List.map_congr_left fun p hp => by rw [h p.2.2 (List.mem_map.2 ⟨p, hp, rfl⟩)]
    simp only [sem, this]
  case bslice n sz z ps =>
    have : ps.map (fun p => (p.1, p.2.1, p.2.2.ev ρ)) = ps.map (fun p => (p.1, p.2.1, p.2.2.ev ρ')) := List.map_congr_left fun p hp => by rw [h p.2.2 (List.mem_map.2 ⟨p, hp, rfl⟩)]
    simp only [sem, this]
  case slice sz x lo hi =>
    have h1 := h x (by simp [opdsOf])
    have h2 : lo.map (·.ev ρ) = lo.map (·.ev ρ') := by cases lo <;> simp; exact h _ (by simp [opdsOf])
    have h3 : hi.map (·.ev ρ) = hi.map (·.ev ρ') := by cases hi <;> simp; exact h _ (by simp [opdsOf])
    simp only [sem, h1, h2, h3]
  case call f xs => simp only [sem, map_ev_congr (xs := xs) h]
  case callF f xs => simp only [sem, map_ev_congr (xs := xs) h]
  case callR f xs => simp only [sem, map_ev_congr (xs := xs) h]
  case callS f xs => rfl
  case callv x xs => rfl
  case mkFn f xs => simp only [sem, map_ev_congr (xs := xs) h]
  all_goals (simp only [opdsOf, List.mem_cons, List.not_mem_nil, or_false, forall_eq_or_imp, forall_eq] at h; simp only [sem, h])

theorem sem_free (h : cls d = 0 ∨ cls d = 2) : sem Γ d name ρ objs = sem Γ d name ρ objs' := by
  cases d <;> first | rfl | (simp [cls] at h; done)

mutual
/-- Every name in a value stands for an object. -/
def RefOk (objs : Obs) : DV → Prop
  | .ptr r _ | .aref r _ | .aptr r _ _ _ | .mref r | .iter r | .asl r _ _ _ | .bsl r _ => objs r ≠ none
  | .agg cs | .tup cs | .clo _ cs => RefOks objs cs
  | _ => True
def RefOks (objs : Obs) : List DV → Prop
  | [] => True
  | d :: ds => RefOk objs d ∧ RefOks objs ds
end

mutual
theorem RefOk.of_rel {w : World} {W : Nat → Prop} {L : Loc} : ∀ (d : DV) (x : Value), RelD w W objs L d x → RefOk objs d
  | .ptr r off, x, h => by simp only [RelD] at h; obtain ⟨⟨cs, hc⟩, _⟩ := h; simp [RefOk, hc]
  | .bsl r n, x, h => by simp only [RelD] at h; obtain ⟨⟨cs, hc⟩, _⟩ := h; simp [RefOk, hc]
  | .aref r ver, x, h => by simp only [RelD] at h; obtain ⟨_, v, e, s, rows, hc, _⟩ := h; simp [RefOk, hc]
  | .aptr r ver i off, x, h => by simp only [RelD] at h; obtain ⟨_, v, e, s, rows, hc, _⟩ := h; simp [RefOk, hc]
  | .mref r, x, h => by simp only [RelD] at h; obtain ⟨⟨_, _, _, _, hc⟩, _⟩ := h; simp [RefOk, hc]
  | .iter r, x, h => by simp only [RelD] at h; obtain ⟨⟨_, _, _, _, hc⟩, _⟩ := h; simp [RefOk, hc]
  | .asl r ver lo n, x, h => by simp only [RelD] at h; obtain ⟨_, v, e, s, rows, hc, _⟩ := h; simp [RefOk, hc]
  | .tup cs, x, h => by simp only [RelD] at h; obtain ⟨vs, _, hr⟩ := h; simp only [RefOk]; exact RefOks.of_relA cs _ hr
  | .clo f cs, x, h => by simp only [RelD] at h; obtain ⟨vs, _, hr⟩ := h; simp only [RefOk]; exact RefOks.of_rel cs _ hr
  | .agg cs, x, h => by simp only [RelD] at h; obtain ⟨vs, _, hr⟩ := h; simp only [RefOk]; exact RefOks.of_rel cs _ hr
  | .undef, _, _ | .skip, _, _ | .v _, _, _ | .nil0, _, _ | .tptr _ _ _, _, _ | .bptr _ _, _, _ | .yld, _, _ => by simp [RefOk]
theorem RefOks.of_rel {w : World} {W : Nat → Prop} {L : Loc} : ∀ (ds : List DV) (xs : List Value), RelDs w W objs L ds xs → RefOks objs ds
  | [], _, _ => by simp [RefOks]
  | d :: ds, xs, h => by
    simp only [RelDs] at h
    obtain ⟨x, xs', _, _, h1, h2⟩ := h
    simp only [RefOks]
    exact ⟨RefOk.of_rel d x h1, RefOks.of_rel ds xs' h2⟩
theorem RefOks.of_relA {w : World} {W : Nat → Prop} {L : Loc} : ∀ (ds : List DV) (xs : List Value), RelDa w W objs L ds xs → RefOks objs ds
  | [], _, _ => by simp [RefOks]
  | d :: ds, xs, h => by
    simp only [RelDa] at h
    obtain ⟨x, xs', _, h1, h2⟩ := h
    simp only [RefOks]
    exact ⟨RefOk.of_rel d x h1, RefOks.of_relA ds xs' h2⟩
end

mutual
theorem RefOk.names : ∀ (d : DV), RefOk objs d → ∀ n ∈ names d, objs n ≠ none
  | .ptr r off, h, n, hn => by simp only [DM.names, List.mem_singleton] at hn; subst hn; simpa only [RefOk] using h
  | .bsl r m, h, n, hn => by simp only [DM.names, List.mem_singleton] at hn; subst hn; simpa only [RefOk] using h
  | .aref r ver, h, n, hn => by simp only [DM.names, List.mem_singleton] at hn; subst hn; simpa only [RefOk] using h
  | .aptr r ver i off, h, n, hn => by simp only [DM.names, List.mem_singleton] at hn; subst hn; simpa only [RefOk] using h
  | .mref r, h, n, hn => by simp only [DM.names, List.mem_singleton] at hn; subst hn; simpa only [RefOk] using h
  | .iter r, h, n, hn => by simp only [DM.names, List.mem_singleton] at hn; subst hn; simpa only [RefOk] using h
  | .asl r _ _ _, h, n, hn => by simp only [DM.names, List.mem_singleton] at hn; subst hn; simpa only [RefOk] using h
  | .tup cs, h, n, hn => by simp only [DM.names] at hn; simp only [RefOk] at h; exact RefOks.names cs h n hn
  | .clo f cs, h, n, hn => by simp only [DM.names] at hn; simp only [RefOk] at h; exact RefOks.names cs h n hn
  | .agg cs, h, n, hn => by simp only [DM.names] at hn; simp only [RefOk] at h; exact RefOks.names cs h n hn
  | .yld, _, n, hn | .undef, _, n, hn | .skip, _, n, hn | .v _, _, n, hn | .nil0, _, n, hn | .tptr _ _ _, _, n, hn | .bptr _ _, _, n, hn => by simp [DM.names] at hn
theorem RefOks.names : ∀ (ds : List DV), RefOks objs ds → ∀ n ∈ namesL ds, objs n ≠ none
  | [], _, n, hn => by simp [namesL] at hn
  | d :: ds, h, n, hn => by
    simp only [RefOks] at h
    simp only [namesL, List.mem_append] at hn
    rcases hn with hn | hn
    · exact RefOk.names d h.1 n hn
    · exact RefOks.names ds h.2 n hn
end

def Ext (objs objs' : Obs) : Prop := ∀ r, objs r ≠ none → objs' r = objs r

mutual
theorem tOf_ext : ∀ (d : DV), (∀ n ∈ names d, objs' n = objs n) → tOf objs' d = tOf objs d
  | .aref r ver, hr => by simp only [tOf, hr r (by simp [names])]
  | .agg cs, hr => by simp only [tOf, tOfs_ext cs (fun n hn => hr n (by simpa only [names] using hn))]
  | .clo f cs, hr => by simp only [tOf, tOfs_ext cs (fun n hn => hr n (by simpa only [names] using hn))]
  | .asl r ver lo n, hr => by simp only [tOf, hr r (by simp [names])]
  | .undef, _ | .skip, _ | .v _, _ | .nil0, _ | .ptr _ _, _ | .tptr _ _ _, _ | .bptr _ _, _ | .aptr _ _ _ _, _ | .yld, _ | .mref _, _ | .iter _, _ | .tup _, _ | .bsl _ _, _ => by simp [tOf]
theorem tOfs_ext : ∀ (ds : List DV), (∀ n ∈ namesL ds, objs' n = objs n) → tOfs objs' ds = tOfs objs ds
  | [], _ => rfl
  | d :: ds, hr => by simp only [tOfs, tOf_ext d (fun n hn => hr n (by simp [namesL, hn])), tOfs_ext ds (fun n hn => hr n (by simp [namesL, hn]))]
end
mutual
theorem tOk_ext (l : Bool) : ∀ (d : DV), (∀ n ∈ names d, objs' n = objs n) → tOk l objs' d = tOk l objs d
  | .aref r ver, hr => by simp only [tOk, hr r (by simp [names])]
  | .agg cs, hr => by simp only [tOk, tOks_ext l cs (fun n hn => hr n (by simpa only [names] using hn))]
  | .clo f cs, hr => by simp only [tOk, tOks_ext l cs (fun n hn => hr n (by simpa only [names] using hn))]
  | .asl r ver lo n, hr => by simp only [tOk, hr r (by simp [names])]
  | .undef, _ | .skip, _ | .v _, _ | .nil0, _ | .ptr _ _, _ | .tptr _ _ _, _ | .bptr _ _, _ | .aptr _ _ _ _, _ | .yld, _ | .mref _, _ | .iter _, _ | .tup _, _ | .bsl _ _, _ => by simp [tOk]
theorem tOks_ext (l : Bool) : ∀ (ds : List DV), (∀ n ∈ namesL ds, objs' n = objs n) → tOks l objs' ds = tOks l objs ds
  | [], _ => rfl
  | d :: ds, hr => by simp only [tOks, tOk_ext l d (fun n hn => hr n (by simp [namesL, hn])), tOks_ext l ds (fun n hn => hr n (by simp [namesL, hn]))]
end
theorem namesL_map {xs : List Opd} {n : Nat} : n ∈ namesL (xs.map (·.ev ρ)) → ∃ x ∈ xs, n ∈ names (x.ev ρ) := by
  induction xs with
  | nil => simp [namesL]
  | cons x xs ih =>
    simp only [List.map_cons, namesL, List.mem_append]
    rintro (h | h)
    · exact ⟨x, by simp, h⟩
    · obtain ⟨y, hy, hn⟩ := ih h
      exact ⟨y, by simp [hy], hn⟩

theorem names_cells (d : DV) : ∀ n ∈ namesL (cellsOf d), n ∈ names d := by
  have hv : ∀ cs : List T, namesL (cs.map .v) = [] := by
    intro cs
    induction cs with
    | nil => rfl
    | cons c cs ih => simp only [List.map_cons, namesL, names, ih, List.append_nil]
  intro n hn
  cases d with
  | v t => cases t <;> simp [cellsOf, namesL, names, hv] at hn
  | agg cs => simpa [cellsOf, names] using hn
  | _ => simpa [cellsOf, namesL] using hn

theorem srcRows_ext {d : DV} (hy : ∀ n ∈ names d, objs' n = objs n) : srcRows objs' d = srcRows objs d := by
  cases d <;> simp only [names, List.mem_singleton, forall_eq] at hy <;> first | rfl | (simp only [srcRows, hy]; done) | skip
  rename_i t
  cases t <;> first | rfl | skip
  rename_i v
  cases v <;> first | rfl | skip
  rename_i p n c
  cases n <;> rfl

/-- An operation does not see objects that no name of its operands reaches. -/
theorem sem_names (hr : ∀ x ∈ opdsOf d, ∀ n ∈ names (x.ev ρ), objs' n = objs n) : sem Γ d name ρ objs' = sem Γ d name ρ objs := by
  by_cases h0 : cls d = 0 ∨ cls d = 2
  · exact sem_free h0
  cases d <;> first | exact absurd (Or.inl rfl) h0 | exact absurd (Or.inr rfl) h0 | rfl | skip
  case load n agg x =>
    have hx := hr x (by simp [opdsOf])
    simp only [sem]
    cases hv : x.ev ρ <;> rw [hv] at hx <;> simp only [names, List.mem_singleton, forall_eq] at hx <;> first | rfl | (simp only [loadSem, hx]; done) | (rename_i t; cases t <;> rfl)
  case store n x y =>
    have hx := hr x (by simp [opdsOf])
    have hy := hr y (by simp [opdsOf])
    have hyc : tOfs objs' (cellsOf (y.ev ρ)) = tOfs objs (cellsOf (y.ev ρ)) := tOfs_ext _ fun n hn => hy n (names_cells _ n hn)
    simp only [sem]
    cases hv : x.ev ρ <;> rw [hv] at hx <;> simp only [names, List.mem_singleton, forall_eq] at hx <;> first | rfl | (simp only [storeSem, hx, hyc]; done) | (rename_i t; cases t <;> rfl)
  case eqT neg agg shs x y =>
    have hx := hr x (by simp [opdsOf])
    have hy := hr y (by simp [opdsOf])
    simp only [sem, tOk_ext true _ hx, tOk_ext true _ hy, tOf_ext _ hx, tOf_ext _ hy]
  case idxAddr sz x i =>
    have hx := hr x (by simp [opdsOf])
    simp only [sem]
    cases hv : x.ev ρ <;> rw [hv] at hx <;> simp only [names, List.mem_singleton, forall_eq] at hx <;> first | rfl | skip
    · rename_i t
      cases t <;> first | rfl | (cases i.ev ρ <;> first | rfl | (rename_i t; cases t <;> rfl))
    · cases i.ev ρ <;> first | rfl | skip
      rename_i t
      cases t <;> first | rfl | (simp only [idxSem, hx])
    · cases i.ev ρ <;> first | rfl | skip
      rename_i t
      cases t <;> first | rfl | (simp only [idxSem, hx])
    · cases i.ev ρ <;> first | rfl | skip
      rename_i t
      cases t <;> rfl
  case len x =>
    have hx := hr x (by simp [opdsOf])
    simp only [sem]
    cases hv : x.ev ρ <;> rw [hv] at hx <;> simp only [names, List.mem_singleton, forall_eq] at hx <;> first | rfl | (simp only [lenSem, hx]; done) | (rename_i t; cases t <;> rfl)
  case call f xs =>
    have hx : ∀ n ∈ namesL (xs.map (·.ev ρ)), objs' n = objs n := fun n hn => by obtain ⟨x, hx, hn⟩ := namesL_map hn; exact hr x hx n hn
    simp only [sem, callSem, tOks_ext _ _ hx, tOfs_ext _ hx]
  case callF f xs =>
    have hx : ∀ n ∈ namesL (xs.map (·.ev ρ)), objs' n = objs n := fun n hn => by obtain ⟨x, hx, hn⟩ := namesL_map hn; exact hr x hx n hn
    simp only [sem, callFSem, tOks_ext _ _ hx, tOfs_ext _ hx]
  case callR f xs =>
    have hx : ∀ n ∈ namesL (xs.map (·.ev ρ)), objs' n = objs n := fun n hn => by obtain ⟨x, hx, hn⟩ := namesL_map hn; exact hr x hx n hn
    simp only [sem, callRSem_ext hx]
  case append e sz bytes x y =>
    have hx := hr x (by simp [opdsOf])
    have hy := hr y (by simp [opdsOf])
    have hs : srcRows objs' (y.ev ρ) = srcRows objs (y.ev ρ) := srcRows_ext hy
    simp only [sem, appendSem, hs]
    cases srcRows objs (y.ev ρ) with
    | none => rfl
    | some ys =>
      cases hv : x.ev ρ <;> rw [hv] at hx <;> simp only [names, List.mem_singleton, forall_eq] at hx <;> first | rfl | (simp only [hx]; done) | (rename_i t; cases t <;> rfl) | skip
      rename_i r ver lo n
      cases lo <;> simp only [hx]
  case slice sz x lo hi =>
    have hx := hr x (by simp [opdsOf])
    simp only [sem]
    cases hv : x.ev ρ <;> rw [hv] at hx <;> simp only [names, List.mem_singleton, forall_eq] at hx <;> first | rfl | (simp only [sliceSem, hx]; done) | (rename_i t; cases t <;> rfl)
  case lookup shs agg z ok x k =>
    have hx := hr x (by simp [opdsOf])
    simp only [sem]
    cases hv : x.ev ρ <;> rw [hv] at hx <;> simp only [names, List.mem_singleton, forall_eq] at hx <;> first | rfl | (rename_i t; cases t <;> rfl) | (cases hkk : keyT (k.ev ρ) <;> simp only [lookupSem, hx, hkk])
  case mapUpd shs agg x k y =>
    have hx := hr x (by simp [opdsOf])
    simp only [sem]
    cases hv : x.ev ρ <;> rw [hv] at hx <;> simp only [names, List.mem_singleton, forall_eq] at hx <;> first | rfl | (rename_i t; cases t <;> rfl) | (cases hkk : keyT (k.ev ρ) <;> simp only [mapUpdSem, hx, hkk])
  case mapEnt shs agg z x k =>
    have hx := hr x (by simp [opdsOf])
    simp only [sem]
    cases hv : x.ev ρ <;> rw [hv] at hx <;> simp only [names, List.mem_singleton, forall_eq] at hx <;> first | rfl | (rename_i t; cases t <;> rfl) | (cases hkk : keyT (k.ev ρ) <;> simp only [mapEntSem, hx, hkk])
  case entSt x s y =>
    have hx := hr x (by simp [opdsOf])
    simp only [sem]
    cases hv : x.ev ρ <;> rw [hv] at hx <;> simp only [names, List.mem_singleton, forall_eq] at hx <;> first | rfl | (rename_i t; cases t <;> rfl) | (unfold entStSem; split <;> first | rfl | (rename_i e _; cases e; simp only [hx]))
  case mapDel shs agg x k =>
    have hx := hr x (by simp [opdsOf])
    simp only [sem]
    cases hv : x.ev ρ <;> rw [hv] at hx <;> simp only [names, List.mem_singleton, forall_eq] at hx <;> first | rfl | (rename_i t; cases t <;> rfl) | (cases hkk : keyT (k.ev ρ) <;> simp only [mapDelSem, hx, hkk])
  case lenM x =>
    have hx := hr x (by simp [opdsOf])
    simp only [sem]
    cases hv : x.ev ρ <;> rw [hv] at hx <;> simp only [names, List.mem_singleton, forall_eq] at hx <;> first | rfl | (simp only [lenMSem, hx]; done) | (rename_i t; cases t <;> rfl)
  case rangeM x =>
    have hx := hr x (by simp [opdsOf])
    simp only [sem]
    cases hv : x.ev ρ <;> rw [hv] at hx <;> simp only [names, List.mem_singleton, forall_eq] at hx <;> first | rfl | (simp only [rangeMSem, hx]; done) | (rename_i t; cases t <;> rfl)
  case isNil kind neg x =>
    have hx := hr x (by simp [opdsOf])
    simp only [sem]
    cases hv : x.ev ρ <;> rw [hv] at hx <;> simp only [names, List.mem_singleton, forall_eq] at hx <;> first | rfl | (simp only [isNilSem, hx]; done) | (unfold isNilSem; split <;> first | rfl | (rename_i e; cases e))
  case copy sz x y =>
    have hx := hr x (by simp [opdsOf])
    have hy := hr y (by simp [opdsOf])
    simp only [sem, copySem, srcRows_ext hy]
    cases srcRows objs (y.ev ρ) with
    | none => rfl
    | some ys =>
      cases hv : x.ev ρ <;> rw [hv] at hx <;> simp only [names, List.mem_singleton, forall_eq] at hx <;> first | rfl | (simp only [hx]; done) | (rename_i t; cases t <;> rfl)

theorem sem_ext (h : Ext objs objs') (hr : ∀ x ∈ opdsOf d, RefOk objs (x.ev ρ)) : sem Γ d name ρ objs' = sem Γ d name ρ objs :=
  sem_names fun x hx n hn => h n (RefOk.names _ (hr x hx) n hn)

/-- It may lay a new object. -/
def lays : DOp → Bool
  | .alloc _ | .box _ | .mkSlice .. | .mkSliceB .. | .append .. | .mkMap .. | .rangeM _ | .callF .. => true
  | _ => false
/-- What is written is named by an operand. -/
theorem put_named {r : Nat} {o : Ob} (h : cls d = 3) (hp : (sem Γ d name ρ objs).put = some (r, o)) : r = name ∨ ∃ x ∈ opdsOf d, r ∈ names (x.ev ρ) := by
  cases d <;> first | (simp [cls] at h; done) | skip
  case store n x y =>
    simp only [sem] at hp
    unfold storeSem at hp
    split at hp
    · rename_i hv
      split at hp
      · simp only [Option.some.injEq, Prod.mk.injEq] at hp; obtain ⟨rfl, _⟩ := hp; exact .inr ⟨x, by simp [opdsOf], by simp [hv, names]⟩
      · cases hp
    · rename_i hv
      split at hp
      · simp only [Option.some.injEq, Prod.mk.injEq] at hp; obtain ⟨rfl, _⟩ := hp; exact .inr ⟨x, by simp [opdsOf], by simp [hv, names]⟩
      · cases hp
    · cases hp
  case append e sz by' x y =>
    simp only [sem] at hp
    unfold appendSem at hp
    split at hp
    · cases hp
    · split at hp
      · simp only [Option.some.injEq, Prod.mk.injEq] at hp; exact .inl hp.1.symm
      · rename_i hv
        split at hp
        · simp only [Option.some.injEq, Prod.mk.injEq] at hp; obtain ⟨rfl, _⟩ := hp; exact .inr ⟨x, by simp [opdsOf], by simp [hv, names]⟩
        · cases hp
      · rename_i hv
        split at hp
        · simp only [Option.some.injEq, Prod.mk.injEq] at hp; obtain ⟨rfl, _⟩ := hp; exact .inr ⟨x, by simp [opdsOf], by simp [hv, names]⟩
        · cases hp
      · cases hp
  case copy sz x y =>
    simp only [sem] at hp
    unfold copySem at hp
    split at hp
    · cases hp
    · split at hp
      · rename_i hv
        split at hp
        · simp only [Option.some.injEq, Prod.mk.injEq] at hp; obtain ⟨rfl, _⟩ := hp; exact .inr ⟨x, by simp [opdsOf], by simp [hv, names]⟩
        · cases hp
      · rename_i hv
        split at hp
        · simp only [Option.some.injEq, Prod.mk.injEq] at hp; obtain ⟨rfl, _⟩ := hp; exact .inr ⟨x, by simp [opdsOf], by simp [hv, names]⟩
        · cases hp
      · cases hp
  case mapUpd shs agg x k y =>
    simp only [sem] at hp
    unfold mapUpdSem at hp
    split at hp
    · rename_i hv _
      split at hp
      · simp only [Option.some.injEq, Prod.mk.injEq] at hp; obtain ⟨rfl, _⟩ := hp; exact .inr ⟨x, by simp [opdsOf], by simp [hv, names]⟩
      · cases hp
    · cases hp
  case mapEnt shs agg z x k =>
    simp only [sem] at hp
    unfold mapEntSem at hp
    split at hp
    · rename_i hv _
      split at hp
      · simp only [Option.some.injEq, Prod.mk.injEq] at hp; obtain ⟨rfl, _⟩ := hp; exact .inr ⟨x, by simp [opdsOf], by simp [hv, names]⟩
      · cases hp
    · cases hp
  case entSt x s y =>
    simp only [sem] at hp
    unfold entStSem at hp
    split at hp
    · rename_i hv _
      split at hp
      · split at hp
        · simp only [Option.some.injEq, Prod.mk.injEq] at hp; obtain ⟨rfl, _⟩ := hp; exact .inr ⟨x, by simp [opdsOf], by simp [hv, names]⟩
        · cases hp
      · cases hp
    · cases hp
  case mapDel shs agg x k =>
    simp only [sem] at hp
    unfold mapDelSem at hp
    split at hp
    · rename_i hv _
      split at hp
      · simp only [Option.some.injEq, Prod.mk.injEq] at hp; obtain ⟨rfl, _⟩ := hp; exact .inr ⟨x, by simp [opdsOf], by simp [hv, names]⟩
      · cases hp
    · cases hp
  case rangeM x =>
    simp only [sem] at hp
    unfold rangeMSem at hp
    split at hp
    · split at hp
      · simp only [Option.some.injEq, Prod.mk.injEq] at hp; exact .inl hp.1.symm
      · cases hp
    · cases hp
  case callF f xs =>
    simp only [sem] at hp
    unfold callFSem at hp
    (repeat' split at hp) <;> first | (cases hp; done) | (simp only [Option.some.injEq, Prod.mk.injEq] at hp; exact .inl hp.1.symm)

/-- An operation that lays nothing names what it writes. -/
theorem put_named2 {r : Nat} {o : Ob} (h : cls d = 3) (hl : lays d = false) (hp : (sem Γ d name ρ objs).put = some (r, o)) : ∃ x ∈ opdsOf d, r ∈ names (x.ev ρ) := by
  cases d <;> first | (simp [cls] at h; done) | (simp [lays] at hl; done) | skip
  case store n x y =>
    simp only [sem] at hp
    unfold storeSem at hp
    split at hp
    · rename_i hv
      split at hp
      · simp only [Option.some.injEq, Prod.mk.injEq] at hp; obtain ⟨rfl, _⟩ := hp; exact ⟨x, by simp [opdsOf], by simp [hv, names]⟩
      · cases hp
    · rename_i hv
      split at hp
      · simp only [Option.some.injEq, Prod.mk.injEq] at hp; obtain ⟨rfl, _⟩ := hp; exact ⟨x, by simp [opdsOf], by simp [hv, names]⟩
      · cases hp
    · cases hp
  case copy sz x y =>
    simp only [sem] at hp
    unfold copySem at hp
    split at hp
    · cases hp
    · split at hp
      · rename_i hv
        split at hp
        · simp only [Option.some.injEq, Prod.mk.injEq] at hp; obtain ⟨rfl, _⟩ := hp; exact ⟨x, by simp [opdsOf], by simp [hv, names]⟩
        · cases hp
      · rename_i hv
        split at hp
        · simp only [Option.some.injEq, Prod.mk.injEq] at hp; obtain ⟨rfl, _⟩ := hp; exact ⟨x, by simp [opdsOf], by simp [hv, names]⟩
        · cases hp
      · cases hp
  case mapUpd shs agg x k y =>
    simp only [sem] at hp
    unfold mapUpdSem at hp
    split at hp
    · rename_i hv _
      split at hp
      · simp only [Option.some.injEq, Prod.mk.injEq] at hp; obtain ⟨rfl, _⟩ := hp; exact ⟨x, by simp [opdsOf], by simp [hv, names]⟩
      · cases hp
    · cases hp
  case mapEnt shs agg z x k =>
    simp only [sem] at hp
    unfold mapEntSem at hp
    split at hp
    · rename_i hv _
      split at hp
      · simp only [Option.some.injEq, Prod.mk.injEq] at hp; obtain ⟨rfl, _⟩ := hp; exact ⟨x, by simp [opdsOf], by simp [hv, names]⟩
      · cases hp
    · cases hp
  case entSt x s y =>
    simp only [sem] at hp
    unfold entStSem at hp
    split at hp
    · rename_i hv _
      split at hp
      · split at hp
        · simp only [Option.some.injEq, Prod.mk.injEq] at hp; obtain ⟨rfl, _⟩ := hp; exact ⟨x, by simp [opdsOf], by simp [hv, names]⟩
        · cases hp
      · cases hp
    · cases hp
  case mapDel shs agg x k =>
    simp only [sem] at hp
    unfold mapDelSem at hp
    split at hp
    · rename_i hv _
      split at hp
      · simp only [Option.some.injEq, Prod.mk.injEq] at hp; obtain ⟨rfl, _⟩ := hp; exact ⟨x, by simp [opdsOf], by simp [hv, names]⟩
      · cases hp
    · cases hp

theorem put_none (h : cls d = 0 ∨ cls d = 1) : (sem Γ d name ρ objs).put = none := by
  cases d <;> first | (simp [cls] at h; done) | rfl | skip
  case pick c a b => simp only [sem]; split <;> rfl
  case bslice => simp only [sem]; split <;> rfl
  case load n agg x => simp only [sem]; unfold loadSem; (repeat' split) <;> rfl
  case bin op x y => simp only [sem]; unfold binSem; (repeat' split) <;> rfl
  case un op x => simp only [sem]; unfold unSem; (repeat' split) <;> rfl
  case conv k x => simp only [sem]; split <;> rfl
  case addOff k x => simp only [sem]; unfold addOffSem; (repeat' split) <;> rfl
  case nilCheck x => simp only [sem]; unfold nilCheckSem; (repeat' split) <;> rfl
  case idxAddr sz x i => simp only [sem]; unfold idxSem; (repeat' split) <;> rfl
  case arrAddr n sz x i => simp only [sem]; unfold arrAddrSem; (repeat' split) <;> rfl
  case field off n agg x => simp only [sem]; unfold fieldSem; (repeat' split) <;> rfl
  case slice sz x lo hi => simp only [sem]; unfold sliceSem; (repeat' split) <;> rfl
  case extract i x => simp only [sem]; unfold extractSem; (repeat' split) <;> rfl
  case call f xs => simp only [sem]; unfold callSem; (repeat' split) <;> rfl
  case callR f xs => simp only [sem]; unfold callRSem; (repeat' split) <;> rfl
  case len x => simp only [sem]; unfold lenSem; (repeat' split) <;> rfl
  case lenS x => simp only [sem]; unfold lenSSem; (repeat' split) <;> rfl
  case minmax m x y => simp only [sem]; unfold minmaxSem; (repeat' split) <;> rfl
  case lookup => simp only [sem]; unfold lookupSem; (repeat' split) <;> rfl
  case lenM x => simp only [sem]; unfold lenMSem; (repeat' split) <;> rfl
  case isNil => simp only [sem]; unfold isNilSem; (repeat' split) <;> rfl
  case indexS x i => simp only [sem]; unfold indexSSem; (repeat' split) <;> rfl

theorem put_new {r : Nat} {o : Ob} (h : cls d = 2) (hp : (sem Γ d name ρ objs).put = some (r, o)) : r = name := by
  cases d <;> first | (simp [cls] at h; done) | skip
  case alloc z => simp only [sem, Option.some.injEq, Prod.mk.injEq] at hp; exact hp.1.symm
  case box x => simp only [sem, Option.some.injEq, Prod.mk.injEq] at hp; exact hp.1.symm
  case mkMap => simp only [sem, Option.some.injEq, Prod.mk.injEq] at hp; exact hp.1.symm
  case mkSlice e sz by' z n =>
    simp only [sem] at hp
    unfold makeSem at hp
    split at hp
    · simp only [Option.some.injEq, Prod.mk.injEq] at hp; exact hp.1.symm
    · cases hp
  case mkSliceB e sz by' z n =>
    simp only [sem] at hp
    unfold makeBSem at hp
    split at hp
    · simp only [Option.some.injEq, Prod.mk.injEq] at hp; exact hp.1.symm
    · cases hp
theorem put_old {r : Nat} {o : Ob} (h : cls d = 3) (hp : (sem Γ d name ρ objs).put = some (r, o)) : r = name ∨ objs r ≠ none := by
  cases d <;> first | (simp [cls] at h; done) | skip
  case store n x y =>
    simp only [sem] at hp
    unfold storeSem at hp
    split at hp
    · split at hp
      · rename_i hc; simp only [Option.some.injEq, Prod.mk.injEq] at hp; obtain ⟨rfl, _⟩ := hp; exact .inr (by simp [hc])
      · cases hp
    · split at hp
      · rename_i hc; simp only [Option.some.injEq, Prod.mk.injEq] at hp; obtain ⟨rfl, _⟩ := hp; exact .inr (by simp [hc])
      · cases hp
    · cases hp
  case append e sz by' x y =>
    simp only [sem] at hp
    unfold appendSem at hp
    split at hp
    · cases hp
    · split at hp
      · simp only [Option.some.injEq, Prod.mk.injEq] at hp; exact .inl hp.1.symm
      · split at hp
        · rename_i hc; simp only [Option.some.injEq, Prod.mk.injEq] at hp; obtain ⟨rfl, _⟩ := hp; exact .inr (by simp [hc])
        · cases hp
      · split at hp
        · rename_i hc; simp only [Option.some.injEq, Prod.mk.injEq] at hp; obtain ⟨rfl, _⟩ := hp; exact .inr (by simp [hc])
        · cases hp
      · cases hp
  case copy sz x y =>
    simp only [sem] at hp
    unfold copySem at hp
    (repeat' split at hp) <;> first | (cases hp; done) | (rename_i hc; simp only [Option.some.injEq, Prod.mk.injEq] at hp; obtain ⟨rfl, _⟩ := hp; exact .inr (by simp [hc]))
  case mapUpd =>
    simp only [sem] at hp
    unfold mapUpdSem at hp
    (repeat' split at hp) <;> first | (cases hp; done) | (rename_i hc; simp only [Option.some.injEq, Prod.mk.injEq] at hp; obtain ⟨rfl, _⟩ := hp; exact .inr (by simp [hc]))
  case mapEnt =>
    simp only [sem] at hp
    unfold mapEntSem at hp
    (repeat' split at hp) <;> first | (cases hp; done) | (rename_i hc; simp only [Option.some.injEq, Prod.mk.injEq] at hp; obtain ⟨rfl, _⟩ := hp; exact .inr (by simp [hc]))
  case entSt =>
    simp only [sem] at hp
    unfold entStSem at hp
    (repeat' split at hp) <;> first | (cases hp; done) | (rename_i hc _ _ _; simp only [Option.some.injEq, Prod.mk.injEq] at hp; obtain ⟨rfl, _⟩ := hp; exact .inr (by simp_all))
  case mapDel =>
    simp only [sem] at hp
    unfold mapDelSem at hp
    (repeat' split at hp) <;> first | (cases hp; done) | (rename_i hc; simp only [Option.some.injEq, Prod.mk.injEq] at hp; obtain ⟨rfl, _⟩ := hp; exact .inr (by simp [hc]))
  case rangeM =>
    simp only [sem] at hp
    unfold rangeMSem at hp
    (repeat' split at hp) <;> first | (cases hp; done) | (simp only [Option.some.injEq, Prod.mk.injEq] at hp; exact .inl hp.1.symm)
  case callF f xs =>
    simp only [sem] at hp
    unfold callFSem at hp
    (repeat' split at hp) <;> first | (cases hp; done) | (simp only [Option.some.injEq, Prod.mk.injEq] at hp; exact .inl hp.1.symm)
theorem put_old2 {r : Nat} {o : Ob} (h : cls d = 3) (hl : lays d = false) (hp : (sem Γ d name ρ objs).put = some (r, o)) : objs r ≠ none := by
  cases d <;> first | (simp [cls] at h; done) | (simp [lays] at hl; done) | skip
  all_goals simp only [sem] at hp
  case store => unfold storeSem at hp; (repeat' split at hp) <;> first | (cases hp; done) | (rename_i hc; simp only [Option.some.injEq, Prod.mk.injEq] at hp; obtain ⟨rfl, _⟩ := hp; simp [hc])
  case copy => unfold copySem at hp; (repeat' split at hp) <;> first | (cases hp; done) | (rename_i hc; simp only [Option.some.injEq, Prod.mk.injEq] at hp; obtain ⟨rfl, _⟩ := hp; simp [hc])
  case mapUpd => unfold mapUpdSem at hp; (repeat' split at hp) <;> first | (cases hp; done) | (rename_i hc; simp only [Option.some.injEq, Prod.mk.injEq] at hp; obtain ⟨rfl, _⟩ := hp; simp [hc])
  case mapEnt => unfold mapEntSem at hp; (repeat' split at hp) <;> first | (cases hp; done) | (rename_i hc; simp only [Option.some.injEq, Prod.mk.injEq] at hp; obtain ⟨rfl, _⟩ := hp; simp [hc])
  case entSt => unfold entStSem at hp; (repeat' split at hp) <;> first | (cases hp; done) | (simp only [Option.some.injEq, Prod.mk.injEq] at hp; obtain ⟨rfl, _⟩ := hp; simp_all)
  case mapDel => unfold mapDelSem at hp; (repeat' split at hp) <;> first | (cases hp; done) | (rename_i hc; simp only [Option.some.injEq, Prod.mk.injEq] at hp; obtain ⟨rfl, _⟩ := hp; simp [hc])
end
end Go.DM
/- The D-machine, part L: a region whose order is open comes out as in the order of its text. Conditions: none. -/
namespace Go.DM
open Go.RowKit
set_option linter.unusedSimpArgs false
set_option linter.unusedVariables false
set_option linter.unusedSectionVars false
variable [Laid] [YieldK]

def slotOf : Opd → Option Nat
  | .tmp t => some t
  | .con _ => none
def slotsOf (r : RO) : List Nat := (opdsOf r.d).filterMap slotOf ++ (r.guard.map (·.1)).toList
def conOk : Opd → Bool
  | .tmp _ => true
  | .con (.v _) | .con .nil0 | .con (.bptr _ _) => true
  | _ => false
def consOk (r : RO) : Bool := (opdsOf r.d).all conOk

def apartDst (x y : RO) : Bool := match x.dst with | some d => !(slotsOf y).contains d | none => true
def neDst (x y : RO) : Bool := match x.dst, y.dst with | some a, some b => a != b | _, _ => true
def conf (a b : Nat) : Bool := ((a == 3 && (b == 1 || b == 3)) || (b == 3 && a == 1)) || ((a == 4 && b != 0) || (b == 4 && a != 0))
/-- The two may change places. -/
def disj (x y : Option (List Nat)) : Bool := match x, y with | some a, some b => a.all fun n => b.all fun m => n != m | _, _ => false
/-- Beside an operation that may do anything stand those that read at most. -/
def ok4 (a b : Nat) : Bool := (a != 4 || b == 1) && (b != 4 || a == 1)
/-- A call that answers with new memory stands beside whatever only reads. -/
def isF : DOp → Bool
  | .callF .. => true
  | _ => false
def newF (a b : DOp) : Bool := (isF a && cls b == 1) || (isF b && cls a == 1)
def indep (x y : RO) : Bool :=
  apartDst x y && apartDst y x && neDst x y && (!conf (cls x.d) (cls y.d) || (disj x.touch y.touch && ok4 (cls x.d) (cls y.d)) || newF x.d y.d)

def laysOk (r : RO) : Bool := !lays r.d || r.dst.isSome

section
variable {Γ : Env} {nxt : Nat}

def RefAll (st : RS) : Prop := ∀ t, RefOk st.objs (st.tmps t)
def nm (nxt : Nat) (r : RO) : Nat := nameOf nxt r.dst
/-- The names that these operations may lay are free. -/
def Fresh (nxt : Nat) (r : RO) (st : RS) : Prop := r.dst.isSome = true → st.objs (nm nxt r) = none

theorem put_tgt {r : RO} {st : RS} {t : Nat} {o : Ob} (hp : (eff Γ nxt r st).put = some (t, o)) : (t = nm nxt r ∧ lays r.d = true) ∨ (st.objs t ≠ none ∧ cls r.d = 3) := by
  unfold eff at hp
  by_cases h0 : cls r.d = 0 ∨ cls r.d = 1
  · rw [put_none h0] at hp; cases hp
  · by_cases h2 : cls r.d = 2
    · refine .inl ⟨put_new h2 hp, ?_⟩
      cases hd : r.d <;> rw [hd] at h2 <;> first | rfl | (simp [cls] at h2; done)
    · have h3 : cls r.d = 3 := by
        cases hd : r.d <;> rw [hd] at h0 h2 <;> first | (simp_all [cls]; done) | (rw [hd] at hp; simp [sem, bad] at hp)
      cases hl : lays r.d with
      | true =>
        rcases put_old h3 hp with h | h
        · exact .inl ⟨h, rfl⟩
        · exact .inr ⟨h, h3⟩
      | false => exact .inr ⟨put_old2 h3 hl hp, h3⟩

theorem ev_upd {x : Opd} {ρ : Nat → DV} {dst : Option Nat} {v : DV} (h : ∀ d, dst = some d → slotOf x ≠ some d) : x.ev (updT ρ dst v) = x.ev ρ := by
  cases x with
  | con d => rfl
  | tmp t =>
    cases dst with
    | none => rfl
    | some d =>
      have := h d rfl
      simp only [slotOf, ne_eq, Option.some.injEq] at this
      simp [Opd.ev, updT, this]

theorem apart_slots {x y : RO} (h : apartDst x y = true) {d : Nat} (hd : x.dst = some d) : d ∉ slotsOf y := by
  simp only [apartDst, hd] at h
  simpa using h

theorem want_upd {x y : RO} (h : apartDst x y = true) (ρ : Nat → DV) (v : DV) : wantD y.guard (updT ρ x.dst v) = wantD y.guard ρ := by
  cases hg : y.guard with
  | none => rfl
  | some g =>
    obtain ⟨s, want⟩ := g
    cases hd : x.dst with
    | none => rfl
    | some d =>
      have hn := apart_slots h hd
      have : s ≠ d := fun e => hn (by simp [slotsOf, hg, e])
      simp [wantD, updT, this]

theorem ev_after {x y : RO} (h1 : apartDst x y = true) (ρ : Nat → DV) (v : DV) : ∀ o ∈ opdsOf y.d, o.ev (updT ρ x.dst v) = o.ev ρ := fun o ho => ev_upd fun d hd hs => by
    have := apart_slots h1 hd
    exact this (by simp only [slotsOf, List.mem_append, List.mem_filterMap]; exact .inl ⟨o, ho, hs⟩)

theorem touch_after {x y : RO} (h1 : apartDst x y = true) (ρ : Nat → DV) (v : DV) : touchOk y (updT ρ x.dst v) ↔ touchOk y ρ := by
  unfold touchOk
  cases y.touch with
  | none => rfl
  | some l =>
    constructor
    · intro h o ho n hn
      exact h o ho n (by rw [ev_after h1 ρ v o ho]; exact hn)
    · intro h o ho n hn
      exact h o ho n (by rw [ev_after h1 ρ v o ho] at hn; exact hn)

theorem disj_not {x y : RO} {ρ : Nat → DV} (hd : disj x.touch y.touch = true) (tx : touchOk x ρ) (ty : touchOk y ρ) {o p : Opd} (ho : o ∈ opdsOf x.d) (hp : p ∈ opdsOf y.d) {n : Nat} (h1 : n ∈ names (o.ev ρ)) (h2 : n ∈ names (p.ev ρ)) : False := by
  unfold disj at hd
  unfold touchOk at tx ty
  cases hx : x.touch with
  | none => simp [hx] at hd
  | some a =>
    cases hy : y.touch with
    | none => simp [hx, hy] at hd
    | some b =>
      simp only [hx, hy] at hd tx ty
      have := List.all_eq_true.1 (List.all_eq_true.1 hd n (tx o ho n h1)) n (ty p hp n h2)
      simp at this

/-- What writes an old object by the very number of its own name (a store, which has none) names it too. -/
theorem store_name {x : RO} {st : RS} {t : Nat} {o : Ob} (h3x : cls x.d = 3) (hlx : laysOk x = true) (hfree : x.dst.isSome = true → False)
    (hpx : (sem Γ x.d (nameOf nxt x.dst) st.tmps st.objs).put = some (t, o)) (h5 : t = nameOf nxt x.dst) {C : Prop} (k : ∀ a ∈ opdsOf x.d, t ∈ names (a.ev st.tmps) → C) : C := by
  cases hdx : x.dst with
  | some d => exact (hfree (by simp [hdx])).elim
  | none =>
    have : lays x.d = false := by simpa [laysOk, hdx] using hlx
    obtain ⟨a, ha, hn⟩ := put_named2 h3x this hpx
    exact k a ha hn

theorem ref_opds {y : RO} {st : RS} (hcy : consOk y = true) (hR : RefAll st) : ∀ o ∈ opdsOf y.d, RefOk st.objs (o.ev st.tmps) := fun o ho => by
  have := List.all_eq_true.1 hcy o ho
  cases o with
  | tmp t => exact hR t
  | con d => cases d <;> first | (simp [conOk] at this; done) | simp [Opd.ev, RefOk]

theorem not4 {d : DOp} : cls d ≠ 4 ↔ is4 d = false := by cases d <;> simp [cls, is4]

theorem semS_reads {d : DOp} {ρ ρ' : Nat → DV} {objs : Obs} {todo : List (List T)} (h : ∀ x ∈ opdsOf d, x.ev ρ = x.ev ρ') : semS Γ d ρ objs todo = semS Γ d ρ' objs todo := by
  cases d <;> first | rfl | skip
  case callS f xs => simp only [semS, map_ev_congr (xs := xs) h]
  case entryM x => simp only [semS, h x (by simp [opdsOf])]
  case callv x xs =>
    have h1 := h x (by simp [opdsOf])
    have h2 := map_ev_congr (xs := xs) (fun y hy => h y (by simp [opdsOf, hy]))
    simp only [semS, h1, h2]

theorem put_callF {f : FuncId} {xs : List Opd} {name : Nat} {ρ : Nat → DV} {objs : Obs} {t : Nat} {o : Ob} (h : (sem Γ (.callF f xs) name ρ objs).put = some (t, o)) : t = name := by
  simp only [sem, callFSem] at h
  (repeat' split at h) <;> simp_all [bad]
theorem eff_after {x y : RO} {st : RS} (hi : indep x y = true) (hx4 : is4 x.d = false) (hy4 : is4 y.d = false) (hcy : consOk y = true) (hlx : laysOk x = true) (hR : RefAll st) (hf : Fresh nxt x st) (v : DV) (td : List (List T)) (ty : touchOk y st.tmps) {p : Option (Nat × Ob)} (hp : p = none ∨ (p = (eff Γ nxt x st).put ∧ touchOk x st.tmps)) :
    eff Γ nxt y ⟨updT st.tmps x.dst v, putO st.objs p, td⟩ = eff Γ nxt y st := by
  simp only [indep, Bool.and_eq_true, Bool.not_eq_true', Bool.or_eq_true] at hi
  obtain ⟨⟨⟨h1, h2⟩, h3⟩, h4⟩ := hi
  have hev := ev_after h1 st.tmps v
  have href := ref_opds hcy hR
  unfold eff
  simp only
  rw [sem_reads hev]
  rcases hp with rfl | ⟨rfl, tx⟩
  · rfl
  · cases hpx : (eff Γ nxt x st).put with
    | none => rfl
    | some q =>
      obtain ⟨t, o⟩ := q
      by_cases hy : cls y.d = 0 ∨ cls y.d = 2
      · exact sem_free hy
      · rcases put_tgt hpx with ⟨rfl, hl⟩ | ⟨hne, h3x⟩
        · refine sem_ext (fun r hr => ?_) href
          have hds : x.dst.isSome = true := by simpa [laysOk, hl] using hlx
          have hnone := hf hds
          simp only [putO]
          rw [if_neg]
          rintro rfl
          exact hr hnone
        · rcases h4 with (h4 | h4) | h4
          · exfalso
            have : cls y.d = 1 ∨ cls y.d = 3 := by
              have := not4.2 hy4
              cases hd : y.d <;> rw [hd] at hy this <;> simp_all [cls]
            rcases this with h | h <;> simp [h3x, h, conf] at h4
          · refine sem_names fun p hp n hn => ?_
            simp only [putO]
            rw [if_neg]
            rintro rfl
            unfold eff at hpx
            rcases put_named h3x hpx with h5 | ⟨o', ho', hn'⟩
            · exact store_name h3x hlx (fun e => hne (by rw [show n = nm nxt x from h5]; exact hf e)) hpx h5 (fun a ha hn' => disj_not h4.1 tx ty ha hp hn' hn)
            · exact disj_not h4.1 tx ty ho' hp hn' hn
          · exfalso
            unfold newF at h4
            rw [h3x] at h4
            have h5 : isF x.d = true := by
              cases hF : isF x.d
              · rw [hF] at h4; simp at h4
              · rfl
            have h6 : lays x.d = true := by
              cases hd : x.d <;> rw [hd] at h5 <;> first | rfl | (simp [isF] at h5; done)
            have h7 := hf (by simpa [laysOk, h6] using hlx)
            have h8 : t = nm nxt x := by
              unfold eff at hpx
              cases hd : x.d <;> rw [hd] at h5 hpx <;> first | (simp [isF] at h5; done) | skip
              exact put_callF hpx
            rw [h8] at hne
            exact hne h7

/-- Beside an operation that may do anything stand only such as see no objects, or read others. -/
theorem indep4 {x y : RO} (hi : indep x y = true) (h4 : is4 x.d = true) : cls y.d = 0 ∨ (cls y.d = 1 ∧ disj x.touch y.touch = true) := by
  have c4 : cls x.d = 4 := by cases hx : x.d <;> rw [hx] at h4 <;> simp_all [cls, is4]
  simp only [indep, Bool.and_eq_true, Bool.not_eq_true', Bool.or_eq_true] at hi
  rcases hi.2 with (h | h) | h
  · simp [conf, c4] at h
    exact .inl h.1
  · simp [ok4, c4] at h
    exact .inr ⟨h.2.1, h.1⟩
  · exfalso
    have : isF x.d = false := by cases hx : x.d <;> rw [hx] at h4 <;> simp_all [isF, is4]
    simp [newF, this, c4] at h

theorem conf_symm (a b : Nat) : conf a b = conf b a := by
  unfold conf
  cases a == 3 <;> cases b == 3 <;> cases a == 1 <;> cases b == 1 <;> cases a == 4 <;> cases b == 4 <;> cases a != 0 <;> cases b != 0 <;> rfl
theorem neDst_symm {x y : RO} (h : neDst x y = true) : neDst y x = true := by
  unfold neDst at h ⊢
  cases hx : x.dst <;> cases hy : y.dst <;> simp_all
  exact fun e => h e.symm
theorem disj_symm (a b : Option (List Nat)) : disj a b = disj b a := by
  cases a with
  | none => cases b <;> rfl
  | some a =>
    cases b with
    | none => rfl
    | some b =>
      rw [Bool.eq_iff_iff]
      simp only [disj, List.all_eq_true, bne_iff_ne, ne_eq]
      exact ⟨fun h n hn m hm e => h m hm n hn e.symm, fun h n hn m hm e => h m hm n hn e.symm⟩
theorem indep_symm {x y : RO} (h : indep x y = true) : indep y x = true := by
  simp only [indep, Bool.and_eq_true] at h ⊢
  refine ⟨⟨⟨h.1.1.2, h.1.1.1⟩, neDst_symm h.1.2⟩, ?_⟩
  rw [conf_symm, disj_symm]
  have := h.2
  simp only [Bool.or_eq_true, Bool.and_eq_true] at this ⊢
  rcases this with (h | h) | h
  · exact .inl (.inl h)
  · refine .inl (.inr ⟨h.1, ?_⟩)
    simp only [ok4, Bool.and_eq_true] at h ⊢
    exact ⟨h.2.2, h.2.1⟩
  · refine .inr ?_
    unfold newF at h ⊢
    rw [Bool.or_comm]
    exact h

/-- What a step puts where. -/
def vp (Γ : Env) (nxt : Nat) (r : RO) (st : RS) : DV × Option (Nat × Ob) :=
  match wantD r.guard st.tmps with
  | some true => ((eff Γ nxt r st).val, (eff Γ nxt r st).put)
  | _ => (.skip, none)
/-- The same of an operation that is told whole. -/
def vp4 (Γ : Env) (r : RO) (st : RS) : DV × Obs × List (List T) :=
  match wantD r.guard st.tmps with
  | some true => ((semS Γ r.d st.tmps st.objs st.todo).val, (semS Γ r.d st.tmps st.objs st.todo).objs, (semS Γ r.d st.tmps st.objs st.todo).todo)
  | _ => (.skip, st.objs, st.todo)

theorem step_eq {r : RO} {st : RS} (h4 : is4 r.d = false) (h : stepOk Γ nxt r st) : stepSt Γ nxt r st = ⟨updT st.tmps r.dst (vp Γ nxt r st).1, putO st.objs (vp Γ nxt r st).2, st.todo⟩ := by
  unfold stepOk at h
  unfold stepSt vp
  cases hw : wantD r.guard st.tmps with
  | none => rw [hw] at h; exact h.elim
  | some b => cases b <;> simp [post, h4, putO]
theorem step_eq4 {r : RO} {st : RS} (h4 : is4 r.d = true) (h : stepOk Γ nxt r st) : stepSt Γ nxt r st = ⟨updT st.tmps r.dst (vp4 Γ r st).1, (vp4 Γ r st).2.1, (vp4 Γ r st).2.2⟩ := by
  unfold stepOk at h
  unfold stepSt vp4
  cases hw : wantD r.guard st.tmps with
  | none => rw [hw] at h; exact h.elim
  | some b => cases b <;> simp [post, h4]
theorem vp_put (r : RO) (st : RS) : (vp Γ nxt r st).2 = none ∨ (vp Γ nxt r st).2 = (eff Γ nxt r st).put := by
  unfold vp
  split
  · exact .inr rfl
  · exact .inl rfl
theorem vp_zero {r : RO} {st : RS} (h0 : cls r.d = 0 ∨ cls r.d = 1) : (vp Γ nxt r st).2 = none := by
  rcases vp_put (Γ := Γ) (nxt := nxt) r st with h | h
  · exact h
  · rw [h]; exact put_none h0

theorem stepOk_touch {r : RO} {st : RS} (h : stepOk Γ nxt r st) : (vp Γ nxt r st).2 = none ∨ ((vp Γ nxt r st).2 = (eff Γ nxt r st).put ∧ touchOk r st.tmps) := by
  unfold stepOk at h
  unfold vp
  cases hw : wantD r.guard st.tmps with
  | none => rw [hw] at h; exact h.elim
  | some b =>
    cases b with
    | false => exact .inl rfl
    | true => rw [hw] at h; exact .inr ⟨rfl, h.2.1⟩

theorem zero_not4 {d : DOp} (h : cls d = 0) : is4 d = false := not4.1 (by rw [h]; decide)

/-- What sees no objects is the same before and behind. -/
theorem after_zero {x y : RO} {st : RS} (ha : apartDst x y = true) (h0 : cls y.d = 0) (v : DV) (objs' : Obs) (td : List (List T)) :
    vp Γ nxt y ⟨updT st.tmps x.dst v, objs', td⟩ = vp Γ nxt y st ∧ (stepOk Γ nxt y ⟨updT st.tmps x.dst v, objs', td⟩ ↔ stepOk Γ nxt y st) := by
  have hw : wantD y.guard (updT st.tmps x.dst v) = wantD y.guard st.tmps := want_upd ha _ _
  have ht := touch_after (y := y) ha st.tmps v
  have he : eff Γ nxt y ⟨updT st.tmps x.dst v, objs', td⟩ = eff Γ nxt y st := by
    unfold eff
    simp only
    rw [sem_reads (ev_after ha st.tmps v)]
    exact sem_free (.inl h0)
  refine ⟨?_, ?_⟩
  · unfold vp
    simp only [hw, he]
  · unfold stepOk post keep4
    simp only [hw, he, ht, zero_not4 h0, Bool.false_eq_true, if_false, false_implies]

/-- What reads is the same before and behind an operation that keeps what it reads. -/
theorem after_read {x y : RO} {st : RS} (ha : apartDst x y = true) (h1 : cls y.d = 1) (hd : disj x.touch y.touch = true) (v : DV) (objs' : Obs) (td : List (List T)) (hk : ∀ l, x.touch = some l → ∀ n, n ∉ l → objs' n = st.objs n)
    (oy : stepOk Γ nxt y st ∨ stepOk Γ nxt y ⟨updT st.tmps x.dst v, objs', td⟩) :
    vp Γ nxt y ⟨updT st.tmps x.dst v, objs', td⟩ = vp Γ nxt y st ∧ stepOk Γ nxt y ⟨updT st.tmps x.dst v, objs', td⟩ ∧ stepOk Γ nxt y st := by
  have hw : wantD y.guard (updT st.tmps x.dst v) = wantD y.guard st.tmps := want_upd ha _ _
  have ht := touch_after (y := y) ha st.tmps v
  have hy4 : is4 y.d = false := not4.1 (by rw [h1]; decide)
  have he : touchOk y st.tmps → eff Γ nxt y ⟨updT st.tmps x.dst v, objs', td⟩ = eff Γ nxt y st := fun ty => by
    unfold eff
    simp only
    rw [sem_reads (ev_after ha st.tmps v)]
    refine sem_names fun p hp n hn => ?_
    unfold disj at hd
    unfold touchOk at ty
    cases hx : x.touch with
    | none => simp [hx] at hd
    | some a =>
      cases hyt : y.touch with
      | none => simp [hx, hyt] at hd
      | some b =>
        simp only [hx, hyt] at hd ty
        refine hk a hx n fun hna => ?_
        have := List.all_eq_true.1 (List.all_eq_true.1 hd n hna) n (ty p hp n hn)
        simp at this
  unfold stepOk post keep4 at oy ⊢
  unfold vp
  simp only [hw, ht, hy4, Bool.false_eq_true, if_false, false_implies, and_true] at oy ⊢
  cases hb : wantD y.guard st.tmps with
  | none => simp only [hb, or_self] at oy
  | some b =>
    cases b with
    | false => simp
    | true =>
      simp only [hb] at oy ⊢
      have ty : touchOk y st.tmps := by rcases oy with h | h <;> exact h.2
      have he := he ty
      simp only [he] at oy ⊢
      have := oy.elim id id
      exact ⟨trivial, this, this⟩
theorem vp4_keep {x : RO} {st : RS} (h4 : is4 x.d = true) (ox : stepOk Γ nxt x st) : ∀ l, x.touch = some l → ∀ n, n ∉ l → (vp4 Γ x st).2.1 n = st.objs n := by
  unfold stepOk post keep4 at ox
  unfold vp4
  intro l hl n hn
  cases hb : wantD x.guard st.tmps with
  | none => simp [hb] at ox
  | some b =>
    cases b with
    | false => rfl
    | true =>
      simp only [hb, h4, if_true] at ox
      exact ox.2.2 trivial l hl n hn
/-- The two together. -/
theorem after4 {x y : RO} {st : RS} (hi : indep x y = true) (h4 : is4 x.d = true) (ox : stepOk Γ nxt x st) (oy : stepOk Γ nxt y st ∨ stepOk Γ nxt y ⟨updT st.tmps x.dst (vp4 Γ x st).1, (vp4 Γ x st).2.1, (vp4 Γ x st).2.2⟩) :
    vp Γ nxt y ⟨updT st.tmps x.dst (vp4 Γ x st).1, (vp4 Γ x st).2.1, (vp4 Γ x st).2.2⟩ = vp Γ nxt y st ∧ stepOk Γ nxt y ⟨updT st.tmps x.dst (vp4 Γ x st).1, (vp4 Γ x st).2.1, (vp4 Γ x st).2.2⟩ ∧ stepOk Γ nxt y st ∧ (cls y.d = 0 ∨ cls y.d = 1) := by
  have ha : apartDst x y = true := by simp only [indep, Bool.and_eq_true] at hi; exact hi.1.1.1
  rcases indep4 hi h4 with h | ⟨h, hd⟩
  · obtain ⟨e1, e2⟩ := after_zero (Γ := Γ) (nxt := nxt) (st := st) ha h (vp4 Γ x st).1 (vp4 Γ x st).2.1 (vp4 Γ x st).2.2
    have := oy.elim id e2.1
    exact ⟨e1, e2.2 this, this, .inl h⟩
  · obtain ⟨e1, e2, e3⟩ := after_read ha h hd _ _ _ (vp4_keep h4 ox) oy
    exact ⟨e1, e2, e3, .inr h⟩

theorem after {x y : RO} {st : RS} (hi : indep x y = true) (hx4 : is4 x.d = false) (hy4 : is4 y.d = false) (hcy : consOk y = true) (hlx : laysOk x = true) (hR : RefAll st) (hf : Fresh nxt x st) (ox : stepOk Γ nxt x st) (oy : stepOk Γ nxt y st ∨ stepOk Γ nxt y (stepSt Γ nxt x st)) :
    vp Γ nxt y (stepSt Γ nxt x st) = vp Γ nxt y st ∧ stepOk Γ nxt y (stepSt Γ nxt x st) ∧ stepOk Γ nxt y st := by
  rw [step_eq hx4 ox] at oy ⊢
  have ha : apartDst x y = true := by simp only [indep, Bool.and_eq_true] at hi; exact hi.1.1.1
  have hw : wantD y.guard (updT st.tmps x.dst (vp Γ nxt x st).1) = wantD y.guard st.tmps := want_upd ha _ _
  have ht := touch_after (y := y) ha st.tmps (vp Γ nxt x st).1
  have he : touchOk y st.tmps → _ := fun ty => eff_after (Γ := Γ) hi hx4 hy4 hcy hlx hR hf (vp Γ nxt x st).1 st.todo ty (stepOk_touch ox)
  generalize vp Γ nxt x st = q at oy hw ht he ⊢
  unfold stepOk post keep4 at oy ⊢
  unfold vp
  simp only [hw, ht, hy4, Bool.false_eq_true, if_false, false_implies, and_true] at oy ⊢
  cases hb : wantD y.guard st.tmps with
  | none => simp only [hb, or_self] at oy
  | some b =>
    cases b with
    | false => simp
    | true =>
      simp only [hb] at oy ⊢
      have ty : touchOk y st.tmps := by rcases oy with h | h <;> exact h.2
      have he := he ty
      simp only [he] at oy ⊢
      have := oy.elim id id
      exact ⟨trivial, this, this⟩

theorem updT_comm {x y : RO} (h3 : neDst x y = true) (f : Nat → DV) (u v : DV) : updT (updT f x.dst u) y.dst v = updT (updT f y.dst v) x.dst u := by
  funext t
  cases hx : x.dst <;> cases hy : y.dst <;> simp only [updT]
  rename_i d e
  have hde : d ≠ e := by simpa [neDst, hx, hy] using h3
  by_cases h1 : t = d <;> by_cases h2 : t = e <;> simp_all

theorem apart4 {x y : RO} {st : RS} (ha : apartDst y x = true) (v : DV) : vp4 Γ x ⟨updT st.tmps y.dst v, st.objs, st.todo⟩ = vp4 Γ x st ∧ (is4 x.d = true → (stepOk Γ nxt x ⟨updT st.tmps y.dst v, st.objs, st.todo⟩ ↔ stepOk Γ nxt x st)) := by
  have hw : wantD x.guard (updT st.tmps y.dst v) = wantD x.guard st.tmps := want_upd ha _ _
  have ht := touch_after (y := x) ha st.tmps v
  have hs : semS Γ x.d (updT st.tmps y.dst v) st.objs st.todo = semS Γ x.d st.tmps st.objs st.todo := semS_reads (ev_after ha st.tmps v)
  refine ⟨?_, fun h4 => ?_⟩
  · unfold vp4
    simp only [hw, hs]
  · unfold stepOk post
    simp only [hw, hs, ht, h4, if_true]

theorem swap {x y : RO} {st : RS} (hi : indep x y = true) (hcx : consOk x = true) (hcy : consOk y = true) (hlx : laysOk x = true) (hly : laysOk y = true) (hR : RefAll st) (hfx : Fresh nxt x st) (hfy : Fresh nxt y st)
    (ox : stepOk Γ nxt x st) (oy : stepOk Γ nxt y (stepSt Γ nxt x st)) :
    stepOk Γ nxt y st ∧ stepOk Γ nxt x (stepSt Γ nxt y st) ∧ stepSt Γ nxt y (stepSt Γ nxt x st) = stepSt Γ nxt x (stepSt Γ nxt y st) := by
  have hi' := hi
  simp only [indep, Bool.and_eq_true] at hi'
  obtain ⟨⟨⟨h1, h2⟩, h3⟩, h4⟩ := hi'
  by_cases hx4 : is4 x.d = true
  · rw [step_eq4 hx4 ox] at oy ⊢
    obtain ⟨e1, _, oy', y0⟩ := after4 hi hx4 ox (.inr oy)
    have hy4 : is4 y.d = false := not4.1 (by rcases y0 with h | h <;> rw [h] <;> decide)
    rw [step_eq hy4 oy, step_eq hy4 oy', e1, vp_zero y0]
    obtain ⟨e3, e4⟩ := apart4 (Γ := Γ) (nxt := nxt) (x := x) (y := y) (st := st) h2 (vp Γ nxt y st).1
    have ox' := (e4 hx4).2 ox
    refine ⟨oy', ox', ?_⟩
    simp only [putO] at ox' ⊢
    rw [step_eq4 hx4 ox', e3]
    simp only
    rw [updT_comm h3]
  · have hx4 : is4 x.d = false := by simpa using hx4
    by_cases hy4 : is4 y.d = true
    · have x0 : cls x.d = 0 ∨ cls x.d = 1 := by
        rcases indep4 (indep_symm hi) hy4 with h | ⟨h, _⟩
        · exact .inl h
        · exact .inr h
      rw [step_eq hx4 ox, vp_zero x0] at oy ⊢
      simp only [putO] at oy ⊢
      obtain ⟨e3, e4⟩ := apart4 (Γ := Γ) (nxt := nxt) (x := y) (y := x) (st := st) h1 (vp Γ nxt x st).1
      have oy' := (e4 hy4).1 oy
      rw [step_eq4 hy4 oy, step_eq4 hy4 oy', e3]
      obtain ⟨e1, ox', _, _⟩ := after4 (indep_symm hi) hy4 oy' (.inl ox)
      refine ⟨oy', ox', ?_⟩
      rw [step_eq hx4 ox', e1, vp_zero x0]
      simp only [putO]
      rw [updT_comm h3]
    · have hy4 : is4 y.d = false := by simpa using hy4
      have a1 := after (Γ := Γ) hi hx4 hy4 hcy hlx hR hfx ox (.inr oy)
      have oy' := a1.2.2
      have a2 := after (Γ := Γ) (indep_symm hi) hy4 hx4 hcx hly hR hfy oy' (.inl ox)
      have ox' := a2.2.1
      refine ⟨oy', ox', ?_⟩
      have tx := stepOk_touch ox
      have ty := stepOk_touch oy'
      rw [step_eq hy4 oy, step_eq hx4 ox', a1.1, a2.1, step_eq hx4 ox, step_eq hy4 oy']
      congr 1
      · exact updT_comm h3 _ _ _
      · funext t
        cases hx : (vp Γ nxt x st).2 with
        | none => cases (vp Γ nxt y st).2 <;> rfl
        | some p =>
          cases hy : (vp Γ nxt y st).2 with
          | none => rfl
          | some q =>
            obtain ⟨t1, o1⟩ := p
            obtain ⟨t2, o2⟩ := q
            have e1 := put_tgt (((vp_put (Γ := Γ) (nxt := nxt) x st).resolve_left (by simp [hx])).symm.trans hx)
            have e2 := put_tgt (((vp_put (Γ := Γ) (nxt := nxt) y st).resolve_left (by simp [hy])).symm.trans hy)
            have hne : t1 ≠ t2 := by
              rcases e1 with ⟨rfl, l1⟩ | ⟨n1, c1⟩ <;> rcases e2 with ⟨rfl, l2⟩ | ⟨n2, c2⟩
              · have s1 : x.dst.isSome = true := by simpa [laysOk, l1] using hlx
                have s2 : y.dst.isSome = true := by simpa [laysOk, l2] using hly
                obtain ⟨d1, hd1⟩ := Option.isSome_iff_exists.1 s1
                obtain ⟨d2, hd2⟩ := Option.isSome_iff_exists.1 s2
                have : d1 ≠ d2 := by simpa [neDst, hd1, hd2] using h3
                simp [nm, nameOf, hd1, hd2, this]
              · rintro rfl
                exact n2 (hfx (by simpa [laysOk, l1] using hlx))
              · rintro rfl
                exact n1 (hfy (by simpa [laysOk, l2] using hly))
              · simp only [Bool.or_eq_true, Bool.and_eq_true] at h4
                rcases h4 with (h4 | h4) | h4
                · simp [conf, c1, c2] at h4
                · rintro rfl
                  have p1 := (tx.resolve_left (by simp [hx])).1.symm.trans hx
                  have p2 := (ty.resolve_left (by simp [hy])).1.symm.trans hy
                  have q1 := (tx.resolve_left (by simp [hx])).2
                  have q2 := (ty.resolve_left (by simp [hy])).2
                  unfold eff at p1 p2
                  rcases put_named c1 p1 with h5 | ⟨o, ho, hn⟩
                  · exact store_name c1 hlx (fun e => n1 (by rw [show t1 = nm nxt x from h5]; exact hfx e)) p1 h5 (fun o ho hn => by
                      rcases put_named c2 p2 with h6 | ⟨o', ho', hn'⟩
                      · exact store_name c2 hly (fun e => n2 (by rw [show t1 = nm nxt y from h6]; exact hfy e)) p2 h6 (fun o' ho' hn' => disj_not h4.1 q1 q2 ho ho' hn hn')
                      · exact disj_not h4.1 q1 q2 ho ho' hn hn')
                  · rcases put_named c2 p2 with h6 | ⟨o', ho', hn'⟩
                    · exact store_name c2 hly (fun e => n2 (by rw [show t1 = nm nxt y from h6]; exact hfy e)) p2 h6 (fun o' ho' hn' => disj_not h4.1 q1 q2 ho ho' hn hn')
                    · exact disj_not h4.1 q1 q2 ho ho' hn hn'
                · simp [newF, c1, c2] at h4
            simp only [putO]
            by_cases h1 : t = t1 <;> by_cases h2 : t = t2 <;> simp_all
end
end Go.DM
