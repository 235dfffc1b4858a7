/- SX: maps with keys that are strings: make, look up, store, delete, range. -/
import Derived.Test.YthkfnmmbjoadbaaGreatDoorPxCopy
import Derived.MapKept
import Derived.Maps.RangeRun
import Derived.Laws.IdiomRangeMap
set_option linter.unusedVariables false
set_option linter.unusedSimpArgs false
namespace Go.SX
open Go

theorem ba_eq {a b : ByteArray} (h : (a == b) = true) : a = b := (MapKept.bytes_beq a b).1 h
theorem ba_self (a : ByteArray) : (a == a) = true := (MapKept.bytes_beq a a).2 rfl
/-- The place and the value of the first entry with this key. -/
def findE (s : ByteArray) : List MapEntry → Nat → Option (Nat × Value)
  | [], _ => none
  | e :: r, i => match e.key with
    | .string k => match s == k with
      | true => some (i, e.val)
      | false => findE s r (i + 1)
    | _ => none
/-- All keys are strings. -/
def StrKeys (es : List MapEntry) : Prop := ∀ e ∈ es, ∃ k, e.key = .string k
theorem findNow_eq (s : ByteArray) : ∀ (es : List MapEntry) (i : Nat), StrKeys es → Instr.findNow .string (.string s) es i = some (findE s es i)
  | [], _, _ => rfl
  | e :: r, i, h => by
    obtain ⟨k, hk⟩ := h e List.mem_cons_self
    simp only [Instr.findNow, findE, hk, Instr.sameNow]
    cases hs : s == k with
    | true => rfl
    | false => simpa using findNow_eq s r (i + 1) (fun x hx => h x (List.mem_cons_of_mem _ hx))
theorem findE_at (s : ByteArray) : ∀ (es : List MapEntry) (i j : Nat) (v : Value), StrKeys es → findE s es i = some (j, v) → ∃ q e, j = i + q ∧ es[q]? = some e ∧ e.key = .string s ∧ e.val = v
  | [], _, _, _, _, h => by cases h
  | e :: r, i, j, v, hs, h => by
    obtain ⟨k, hk⟩ := hs e List.mem_cons_self
    simp only [findE, hk] at h
    cases hb : s == k with
    | true =>
      rw [hb] at h
      obtain ⟨rfl, rfl⟩ := Prod.mk.inj (Option.some.inj h)
      exact ⟨0, e, rfl, rfl, by rw [hk]; congr 1; exact (ba_eq hb).symm, rfl⟩
    | false =>
      rw [hb] at h
      obtain ⟨q, x, h1, h2, h3, h4⟩ := findE_at s r (i + 1) j v (fun x hx => hs x (List.mem_cons_of_mem _ hx)) h
      exact ⟨q + 1, x, by omega, by simpa using h2, h3, h4⟩
/-- The entries behind a store. -/
def putE (s : ByteArray) (v : Value) (clock : Nat) : List MapEntry → List MapEntry
  | [] => [⟨.string s, v, clock⟩]
  | e :: r => match e.key with
    | .string k => match s == k with
      | true => { e with val := v } :: r
      | false => e :: putE s v clock r
    | _ => e :: putE s v clock r
def delE (s : ByteArray) : List MapEntry → List MapEntry
  | [] => []
  | e :: r => match e.key with
    | .string k => match s == k with
      | true => r
      | false => e :: delE s r
    | _ => e :: delE s r
theorem putE_some (s : ByteArray) (v : Value) (clock : Nat) : ∀ (es : List MapEntry) (i j : Nat) (u : Value), StrKeys es → findE s es i = some (j, u) → putE s v clock es = es.modify (j - i) fun e => { e with key := .string s, val := v }
  | [], _, _, _, _, h => by cases h
  | e :: r, i, j, u, hs, h => by
    obtain ⟨k, hk⟩ := hs e List.mem_cons_self
    simp only [findE, hk] at h
    simp only [putE, hk]
    cases hb : s == k with
    | true =>
      rw [hb] at h
      obtain ⟨rfl, rfl⟩ := Prod.mk.inj (Option.some.inj h)
      have : k = s := (ba_eq hb).symm
      subst this
      simp [← hk]
    | false =>
      rw [hb] at h
      have hs' : StrKeys r := fun x hx => hs x (List.mem_cons_of_mem _ hx)
      obtain ⟨q, x, h1, h2, h3, h4⟩ := findE_at s r (i + 1) j u hs' h
      have := putE_some s v clock r (i + 1) j u hs' h
      simp only [this]
      rw [show j - i = (j - (i + 1)) + 1 by omega, List.modify_succ_cons]
theorem putE_none (s : ByteArray) (v : Value) (clock : Nat) : ∀ (es : List MapEntry) (i : Nat), StrKeys es → findE s es i = none → putE s v clock es = es ++ [⟨.string s, v, clock⟩]
  | [], _, _, _ => rfl
  | e :: r, i, hs, h => by
    obtain ⟨k, hk⟩ := hs e List.mem_cons_self
    simp only [findE, hk] at h
    simp only [putE, hk]
    cases hb : s == k with
    | true => rw [hb] at h; cases h
    | false =>
      rw [hb] at h
      simp only [putE_none s v clock r (i + 1) (fun x hx => hs x (List.mem_cons_of_mem _ hx)) h, List.cons_append]
theorem delE_some (s : ByteArray) : ∀ (es : List MapEntry) (i j : Nat) (u : Value), StrKeys es → findE s es i = some (j, u) → delE s es = es.eraseIdx (j - i)
  | [], _, _, _, _, h => by cases h
  | e :: r, i, j, u, hs, h => by
    obtain ⟨k, hk⟩ := hs e List.mem_cons_self
    simp only [findE, hk] at h
    simp only [delE, hk]
    cases hb : s == k with
    | true =>
      rw [hb] at h
      obtain ⟨rfl, rfl⟩ := Prod.mk.inj (Option.some.inj h)
      simp
    | false =>
      rw [hb] at h
      have hs' : StrKeys r := fun x hx => hs x (List.mem_cons_of_mem _ hx)
      obtain ⟨q, x, h1, h2, h3, h4⟩ := findE_at s r (i + 1) j u hs' h
      simp only [delE_some s r (i + 1) j u hs' h]
      rw [show j - i = (j - (i + 1)) + 1 by omega, List.eraseIdx_cons_succ]
theorem delE_none (s : ByteArray) : ∀ (es : List MapEntry) (i : Nat), StrKeys es → findE s es i = none → delE s es = es
  | [], _, _, _ => rfl
  | e :: r, i, hs, h => by
    obtain ⟨k, hk⟩ := hs e List.mem_cons_self
    simp only [findE, hk] at h
    simp only [delE, hk]
    cases hb : s == k with
    | true => rw [hb] at h; cases h
    | false =>
      rw [hb] at h
      simp only [delE_none s r (i + 1) (fun x hx => hs x (List.mem_cons_of_mem _ hx)) h]

section
variable {P : Program} {n : Cfg} {o : Oper} {e : Env} {m : Mem} {g : GH}

theorem run_checkKey_str {kt : TypeId} (hk : P.underlying kt = some .string) (em : Bool) (s : ByteArray) (w : World) : (Instr.checkKey em 10000 kt (.string s)).run P w = .ok () w := by
  exact MapKept.run_checkKey hk (by simp [MapKept.IsKey]) em 9999
theorem run_findKey_str {kt : TypeId} (hk : P.underlying kt = some .string) (s : ByteArray) (es : List MapEntry) (hs : StrKeys es) (w : World) : (Instr.findKey kt (.string s) es).run P w = .ok (findE s es 0) w := by
  simp [Instr.findKey, run_underlying hk, findNow_eq s es 0 hs]
theorem run_getMap {w : World} {r : Nat} {es : Array MapEntry} {clock : Nat} (h : w.heap[r]? = some (.map es clock)) : (getObj r).run P w = .ok (.map es clock) w := by
  simp [getObj, Sem.run, h]
theorem run_setMap {w : World} {r : Nat} {es : Array MapEntry} {clock : Nat} (h : w.heap[r]? = some (.map es clock)) (o' : Obj) : (setObj r o').run P w = .ok () (ChangeMaps.setBlock w r o') := by
  simp [setObj, Sem.run, h, ChangeMaps.setBlock]
theorem setBlock_at {w : World} {b : Nat} {o o' : Obj} (h : w.heap[b]? = some o) : (ChangeMaps.setBlock w b o').heap[b]? = some o' := by
  have := (Array.getElem?_eq_some_iff.1 h).1
  simp [ChangeMaps.setBlock, Array.getElem?_setIfInBounds, this]
theorem setBlock_ne {w : World} {b x : Nat} {o' : Obj} (h : x ≠ b) : (ChangeMaps.setBlock w b o').heap[x]? = w.heap[x]? := by
  simp [ChangeMaps.setBlock, Array.getElem?_setIfInBounds, Ne.symm h]
theorem setBlock_size {w : World} {b : Nat} {o' : Obj} : (ChangeMaps.setBlock w b o').heap.size = w.heap.size := by simp [ChangeMaps.setBlock]
theorem drew_heap' (w : World) : w.drew.heap = w.heap := rfl

theorem OOK.makeMap {K : Env → Mem → GH → Prop} {t : TypeId} (hop : o.op = .makeMap t none) (hk : ∀ b, snoc m ⟨b, .obj (.map #[] 0)⟩ 0 fun _ m => putK n o.dst (.val (.map (some b))) e fun e => K e m g) : OOK P n o e m g K := by
  refine ⟨fun a w ha hw next Q hn hX => ?_⟩
  have hrun : (execOp a.eval o).run P w = .ok (.value (.map (some w.heap.size))) (w.alloc (.map #[] 0)) := by
    simp [execOp, hop, Instr.makeMap, newObj, Sem.run]
  have h0 := hk w.heap.size
  rw [snoc_eq] at h0
  obtain ⟨e', h5, h6⟩ := putK_ok h0 (ha.ext (Mem.ext_append _ _)) (v := .map (some w.heap.size)) rfl
  unfold Oper.wp
  rw [hrun]
  exact hn _ _ e' _ g h5 (hw.alloc _ _ rfl) (Fr.alloc _ _) h6

theorem OOK.lookup {K : Env → Mem → GH → Prop} {t kt el : TypeId} {x y : Operand} {ok : Bool} (i : Nat) {b clock : Nat} {es : List MapEntry} {s : ByteArray} {z : Value} (r : Option (Nat × Value))
    (hop : o.op = .lookup t x y ok) (hx : e.va m x = some (.map (some b))) (hy : e.va m y = some (.string s)) (ht : P.underlying t = some (.map kt el)) (hk : P.underlying kt = some .string)
    (hm : m[i]? = some ⟨b, .obj (.map es.toArray clock)⟩) (hs : StrKeys es) (hz : ∀ w, (zeroValue el).run P w = .ok z w) (hr : findE s es 0 = r)
    (h : putK n o.dst (.val (if ok then .tuple #[(r.map (·.2)).getD z, .bool r.isSome] else (r.map (·.2)).getD z)) e fun e => K e m g) : OOK P n o e m g K := by
  refine OOK.val rfl (fun a w ha hw => ?_) h
  have hb := hw.own _ (List.mem_of_getElem? hm) _ rfl
  simp only at hb
  subst hr
  simp only [execOp, hop, ha.va hx, ha.va hy, Instr.lookup, Sem.run_bind, run_underlying ht, run_getMap hb, Result.andThen_ok, Sem.run_pure, run_checkKey_str hk, run_findKey_str hk s es hs]
  cases hf : findE s es 0 with
  | none => cases ok <;> simp [hz]
  | some q => cases ok <;> simp

theorem OOK.mapUpdate {K : Env → Mem → GH → Prop} {t kt el : TypeId} {x y u : Operand} (i : Nat) {b clock : Nat} {es : List MapEntry} {s : ByteArray} {v : Value} {es' : List MapEntry} {clock' : Nat}
    (hop : o.op = .mapUpdate t x y u) (hx : e.va m x = some (.map (some b))) (hy : e.va m y = some (.string s)) (hu : e.va m u = some v) (ht : P.underlying t = some (.map kt el)) (hk : P.underlying kt = some .string)
    (hm : m[i]? = some ⟨b, .obj (.map es.toArray clock)⟩) (hs : StrKeys es) (he : putE s v clock es = es') (hc : (if (findE s es 0).isSome then clock else clock + 1) = clock')
    (h : setF m i ⟨b, .obj (.map es'.toArray clock')⟩ fun m => putK n o.dst (.val undef) e fun e => K e m g) : OOK P n o e m g K := by
  subst he; subst hc
  refine OOK.skipU fun a w ha hw => ?_
  have hb := hw.own _ (List.mem_of_getElem? hm) _ rfl
  simp only at hb
  have hrun : (execOp a.eval o).run P w = .ok .skip (ChangeMaps.setBlock w b (.map (putE s v clock es).toArray (if (findE s es 0).isSome then clock else clock + 1))) := by
    simp only [execOp, hop, ha.va hx, ha.va hy, ha.va hu, Instr.mapUpdate, Sem.run_bind, run_underlying ht, run_getMap hb, Result.andThen_ok, Sem.run_pure, run_checkKey_str hk, run_findKey_str hk s es hs]
    cases hf : findE s es 0 with
    | none =>
      simp only [run_setMap hb, Result.andThen_ok, Sem.run_pure, putE_none s v clock es 0 hs hf]
      simp
    | some q =>
      obtain ⟨j, u'⟩ := q
      obtain ⟨q', x', h1, h2, h3, h4⟩ := findE_at s es 0 j u' hs hf
      have hq : q' = j := by omega
      subst hq
      have hkey : ((es.toArray[q']?).map (·.key)).getD (.string s) = .string s := by simp [h2, h3]
      have hst : (Instr.keyThatStays (.string s) (.string s)).run P w = .ok (.string s) w := by
        simp only [Instr.keyThatStays, Instr.sameBits, ba_self, if_true, Sem.run_pure]
      simp only [Sem.run_bind, hkey, hst, Result.andThen_ok, run_setMap hb, Sem.run_pure, putE_some s v clock es 0 q' u' hs hf]
      simp
  unfold setF at h
  split at h
  · rename_i l hl
    obtain ⟨rfl, _⟩ := setM_eq _ _ _ _ hl
    exact ⟨_, _, hrun, hw.write hm rfl (.obj _) _ rfl (setBlock_at hb) (fun x hx => setBlock_ne hx), Mem.ext_set hm rfl, Fr.write hm rfl (.obj _) (fun x hx => setBlock_ne hx) setBlock_size rfl rfl rfl, h⟩
  · exact h.elim

theorem OOK.mapDelete {K : Env → Mem → GH → Prop} {t kt el u : TypeId} {x y : Operand} (i : Nat) {b clock : Nat} {es : List MapEntry} {s : ByteArray} {es' : List MapEntry}
    (hop : o.op = .call ⟨.builtin .delete, #[x, y], #[t, u]⟩) (hx : e.va m x = some (.map (some b))) (hy : e.va m y = some (.string s)) (ht : P.underlying t = some (.map kt el)) (hk : P.underlying kt = some .string)
    (hm : m[i]? = some ⟨b, .obj (.map es.toArray clock)⟩) (hs : StrKeys es) (he : delE s es = es')
    (h : setF m i ⟨b, .obj (.map es'.toArray clock)⟩ fun m => putK n o.dst (.val (.tuple #[])) e fun e => K e m g) : OOK P n o e m g K := by
  refine ⟨fun a w ha hw next Q hn hX => ?_⟩
  have hb := hw.own _ (List.mem_of_getElem? hm) _ rfl
  simp only at hb
  have hrun : (execOp a.eval o).run P w = .ok (.value (.tuple #[])) (ChangeMaps.setBlock w b (.map es'.toArray clock)) := by
    subst he
    simp only [execOp, hop, resolve, invoke, builtin, List.map_toArray, List.map_cons, List.map_nil, ha.va hx, ha.va hy, Builtin.delete_, List.getElem?_toArray, List.getElem?_cons_zero, List.getElem?_cons_succ, Sem.run_bind, run_underlying ht, run_getMap hb, Result.andThen_ok, Sem.run_pure, run_checkKey_str hk, run_findKey_str hk s es hs]
    cases hf : findE s es 0 with
    | none => simp [run_setMap hb, delE_none s es 0 hs hf]
    | some q =>
      obtain ⟨j, u'⟩ := q
      have := delE_some s es 0 j u' hs hf
      simp [run_setMap hb, this]
  unfold setF at h
  split at h
  · rename_i l hl
    obtain ⟨rfl, _⟩ := setM_eq _ _ _ _ hl
    obtain ⟨e', h5, h6⟩ := putK_ok h (ha.ext (Mem.ext_set (s' := ⟨b, .obj (.map es'.toArray clock)⟩) hm rfl)) (v := .tuple #[]) rfl
    unfold Oper.wp
    rw [hrun]
    have q1 : Has (ChangeMaps.setBlock w b (.map es'.toArray clock)) g (m.set i ⟨b, .obj (.map es'.toArray clock)⟩) := hw.write hm rfl (.obj _) _ rfl (setBlock_at hb) (fun x hx => setBlock_ne hx)
    have q2 : Fr w m g (ChangeMaps.setBlock w b (.map es'.toArray clock)) (m.set i ⟨b, .obj (.map es'.toArray clock)⟩) g := Fr.write hm rfl (.obj _) (fun x hx => setBlock_ne hx) setBlock_size rfl rfl rfl
    exact hn _ _ e' _ g h5 q1 q2 h6
  · exact h.elim

theorem OOK.range {K : Env → Mem → GH → Prop} {t kt el : TypeId} {x : Operand} (i : Nat) {b clock : Nat} {es : List MapEntry} (hop : o.op = .range t x) (hx : e.va m x = some (.map (some b))) (ht : P.underlying t = some (.map kt el))
    (hm : m[i]? = some ⟨b, .obj (.map es.toArray clock)⟩) (hk : ∀ r, snoc m ⟨r, .obj (.mapIter (some b) clock #[] clock)⟩ 0 fun k m => putK n o.dst (.own k 0) e fun e => K e m g) : OOK P n o e m g K := by
  refine ⟨fun a w ha hw next Q hn hX => ?_⟩
  have hb := hw.own _ (List.mem_of_getElem? hm) _ rfl
  simp only at hb
  have hrun : (execOp a.eval o).run P w = .ok (.value (.pointer (some ⟨w.heap.size, 0, none⟩))) (w.alloc (.mapIter (some b) clock #[] clock)) := by
    simp only [execOp, hop, ha.va hx, Sem.run_bind, run_range_map w t kt el b _ clock ht hb, Result.andThen_ok, Sem.run_pure]
  have h0 := hk w.heap.size
  rw [snoc_eq] at h0
  obtain ⟨e', h5, h6⟩ := putK_ok h0 (ha.ext (Mem.ext_append _ _)) (m := m ++ [⟨w.heap.size, .obj (.mapIter (some b) clock #[] clock)⟩]) (x := .own (0 + m.length) 0) (v := .pointer (some ⟨w.heap.size, 0, none⟩)) (by simp [SV.den, List.getElem?_append_right])
  unfold Oper.wp
  rw [hrun]
  exact hn _ _ e' _ g h5 (hw.alloc _ _ rfl) (Fr.alloc _ _) h6
/-- One step of a range: it is over, or an entry that has not come yet. -/
theorem OOK.next {K : Env → Mem → GH → Prop} {x : Operand} (i j : Nat) {r b clock : Nat} {es : List MapEntry} {seen : Array Nat} (hop : o.op = .next x false) (hx : e.va m x = some (.pointer (some ⟨r, 0, none⟩)))
    (hi : m[i]? = some ⟨r, .obj (.mapIter (some b) clock seen clock)⟩) (hj : m[j]? = some ⟨b, .obj (.map es.toArray clock)⟩) (hold : ∀ x ∈ es, x.born < clock)
    (hover : (∀ x ∈ es, x.born ∈ seen.toList) → putK n o.dst (.val (.tuple #[.bool false])) e fun e => K e m g)
    (hstep : ∀ x ∈ es, x.born ∉ seen.toList → setF m i ⟨r, .obj (.mapIter (some b) clock (seen.push x.born) clock)⟩ fun m => putK n o.dst (.val (.tuple #[.bool true, x.key, x.val])) e fun e => K e m g) : OOK P n o e m g K := by
  refine ⟨fun a w ha hw next Q hn hX => ?_⟩
  have hr := hw.own _ (List.mem_of_getElem? hi) _ rfl
  have hb := hw.own _ (List.mem_of_getElem? hj) _ rfl
  simp only at hr hb
  have hop' : (execOp a.eval o).run P w = ((Instr.next (.pointer (some ⟨r, 0, none⟩)) false o.type).run P w).andThen fun v w => .ok (.value v) w := by
    simp only [execOp, hop, ha.va hx, Sem.run_bind, Sem.run_pure]
  rcases run_next_at (P := P) w o.type r b clock clock seen es.toArray clock hr hb (by simpa using hold) (Nat.le_refl _) with ⟨h0, hrun⟩ | ⟨x, hxm, w1, hw1, hrun⟩
  · have hall : ∀ x ∈ es, x.born ∈ seen.toList := by
      intro x hx'
      have hemp : leftOf es.toArray seen = #[] := Array.eq_empty_of_size_eq_zero h0
      unfold leftOf at hemp
      rw [Array.filter_eq_empty_iff] at hemp
      have := hemp x (by simpa using hx')
      simpa using this
    obtain ⟨e', h5, h6⟩ := putK_ok (hover hall) ha (v := .tuple #[.bool false]) rfl
    unfold Oper.wp
    rw [hop', hrun]
    exact hn _ _ e' m g h5 hw (.refl _ _ _) h6
  · have hx1 : x ∈ es ∧ x.born ∉ seen.toList := by
      unfold leftOf at hxm
      simpa using hxm
    have h := hstep x hx1.1 hx1.2
    have hh1 : w1.heap = w.heap := by rcases hw1 with rfl | rfl <;> rfl
    have hr1 : w1.heap[r]? = some (.mapIter (some b) clock seen clock) := by rw [hh1]; exact hr
    have hw' : Has w1 g m := hw.drew hh1
    have hf1 : Fr w m g w1 m g := by
      rcases hw1 with rfl | rfl
      · exact .refl _ _ _
      · exact ⟨rfl, rfl, rfl, Nat.le_refl _, .refl _, fun _ _ _ => rfl, fun _ _ _ => rfl, fun _ _ h => h⟩
    unfold setF at h
    split at h
    · rename_i l hl
      obtain ⟨rfl, _⟩ := setM_eq _ _ _ _ hl
      obtain ⟨e', h5, h6⟩ := putK_ok h (ha.ext (Mem.ext_set (s' := ⟨r, .obj (.mapIter (some b) clock (seen.push x.born) clock)⟩) hi rfl)) (v := .tuple #[.bool true, x.key, x.val]) rfl
      unfold Oper.wp
      rw [hop', hrun]
      have q1 : Has (ChangeMaps.setBlock w1 r (.mapIter (some b) clock (seen.push x.born) clock)) g (m.set i ⟨r, .obj (.mapIter (some b) clock (seen.push x.born) clock)⟩) := hw'.write hi rfl (.obj _) _ rfl (setBlock_at hr1) (fun x hx => setBlock_ne hx)
      have q2 : Fr w1 m g (ChangeMaps.setBlock w1 r (.mapIter (some b) clock (seen.push x.born) clock)) (m.set i ⟨r, .obj (.mapIter (some b) clock (seen.push x.born) clock)⟩) g := Fr.write hi rfl (.obj _) (fun x hx => setBlock_ne hx) setBlock_size rfl rfl rfl
      exact hn _ _ e' _ g h5 q1 (hf1.trans q2) h6
    · exact h.elim
theorem OOK.entry {K : Env → Mem → GH → Prop} {x : Operand} (i j : Nat) {r b clock : Nat} {es : List MapEntry} {seen : Array Nat} (y : MapEntry) (hop : o.op = .entry x) (hx : e.va m x = some (.pointer (some ⟨r, 0, none⟩)))
    (hi : m[i]? = some ⟨r, .obj (.mapIter (some b) clock (seen.push y.born) clock)⟩) (hj : m[j]? = some ⟨b, .obj (.map es.toArray clock)⟩) (hy : y ∈ es) (hn : (es.map (·.born)).Nodup)
    (h : putK n o.dst (.val (.tuple #[y.key, y.val])) e fun e => K e m g) : OOK P n o e m g K := by
  refine OOK.val rfl (fun a w ha hw => ?_) h
  have hr := hw.own _ (List.mem_of_getElem? hi) _ rfl
  have hb := hw.own _ (List.mem_of_getElem? hj) _ rfl
  simp only at hr hb
  simp only [execOp, hop, ha.va hx, Sem.run_bind, run_entry_at (P := P) w r b clock seen es.toArray clock y hr hb (by simpa using hy) (by simpa using hn), Result.andThen_ok, Sem.run_pure]
end
end Go.SX
