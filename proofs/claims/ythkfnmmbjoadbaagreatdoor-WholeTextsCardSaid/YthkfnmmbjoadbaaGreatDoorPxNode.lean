/- SX, part 6: the steps that the walk leaves to the prover: reads of what is known for good, calls, drawn orders, appends. -/
import Derived.Test.YthkfnmmbjoadbaaGreatDoorPxVc2
import Derived.Deep.Quiet
set_option linter.unusedVariables false
set_option linter.unusedSimpArgs false
namespace Go.SX

/-- The cell at an address, in what is known for good. -/
def cellG (g : GH) (a : Addr) : Option Value :=
  match g a.block with
  | some (.cells c _ _) => match a.spot with
    | some _ => none
    | none => c[a.off]?
  | _ => none
theorem cellG_mono {g g' : GH} (h : g.le g') {a : Addr} {v : Value} (hc : cellG g a = some v) : cellG g' a = some v := by
  unfold cellG at *
  cases hb : g a.block with
  | none => rw [hb] at hc; cases hc
  | some o => rw [hb] at hc; rw [h _ _ hb]; exact hc
theorem Has.cellG {w g m} (h : Has w g m) {a : Addr} {v : Value} (hc : cellG g a = some v) : w.cell? a = some v := by
  unfold SX.cellG at hc
  cases hb : g a.block with
  | none => rw [hb] at hc; cases hc
  | some o =>
    rw [hb] at hc
    have hw := h.sub _ _ hb
    unfold World.cell?
    rw [hw]
    cases o <;> try cases hc
    rename_i c t fr
    simp only at hc ⊢
    cases hs : a.spot with
    | none => rw [hs] at hc; simpa [hs] using hc
    | some x => rw [hs] at hc; cases hc
/-- The cells 'cs' stand from 'a' on, for good. -/
def Reads (g : GH) (a : Addr) (cs : List Value) : Prop := ∀ j v, cs[j]? = some v → cellG g (addN a j) = some v
theorem Reads.mono {g g' : GH} (h : g.le g') {a cs} (r : Reads g a cs) : Reads g' a cs := fun j v hj => cellG_mono h (r j v hj)
theorem Addr.add_add (a : Addr) (i j : Nat) : (a.add i).add j = a.add (i + j) := by
  unfold Addr.add
  by_cases h1 : i = 0 <;> by_cases h2 : j = 0 <;> simp [h1, h2, Nat.add_assoc]
theorem addN_add (a : Addr) (i j : Nat) : addN (addN a i) j = addN a (i + j) := by rw [addN_eq, addN_eq, addN_eq, Addr.add_add]
theorem Reads.at_ {g a cs} (r : Reads g a cs) {j : Nat} {v : Value} (h : cs[j]? = some v) : cellG g (addN a j) = some v := r j v h
/-- A cell of what is read further on. -/
theorem Reads.at2 {g a cs} {i : Nat} (r : Reads g (addN a i) cs) {j : Nat} {v : Value} (h : cs[j]? = some v) : cellG g (addN (addN a i) j) = some v := r j v h
theorem Reads.drop {g a cs} (r : Reads g a cs) (i : Nat) : Reads g (addN a i) (cs.drop i) := fun j v hj => by
  rw [addN_add]
  exact r (i + j) v (by simpa using hj)
theorem Reads.take {g a cs} (r : Reads g a cs) (i : Nat) : Reads g a (cs.take i) := fun j v hj => by
  rw [List.getElem?_take] at hj
  split at hj
  · exact r j v hj
  · cases hj
theorem Reads.append {g a cs ds} (r : Reads g a (cs ++ ds)) : Reads g a cs ∧ Reads g (addN a cs.length) ds := by
  have h1 := r.take cs.length
  have h2 := r.drop cs.length
  simp at h1 h2
  exact ⟨h1, h2⟩

section
variable {P : Program} {n : Cfg} {o : Oper} {e : Env} {m : Mem} {g : GH}

/-- The same, of those temporaries alone whose slots are there. -/
structure AgrW (a : Act) (n : Cfg) (e : Env) (m : Mem) : Prop where
  at_ : ∀ t x v, e.get t = some x → x.den m = some v → a.tmps[t]? = some v
theorem Agr.w {a : Act} (h : Agr a n e m) : AgrW a n e m := ⟨fun t x v hx hv => by
  obtain ⟨u, h1, h2⟩ := h.at_ t x hx
  rw [h2, ← h1, hv]⟩
theorem Agr.w0 {a : Act} {m0 : Mem} (h : Agr a n e m) (hx : m0.ext m) : AgrW a n e m0 := ⟨fun t x v hx' hv => by
  obtain ⟨u, h1, h2⟩ := h.at_ t x hx'
  rw [h2, ← h1, SV.den_ext hx hv]⟩
theorem AgrW.op {a : Act} (h : AgrW a n e m) {x : Operand} {s : SV} {v : Value} (hx : e.op x = some s) (hv : s.den m = some v) : a.eval x = v := by
  cases x with
  | tmp t => simp [Act.eval, h.at_ t s v hx hv]
  | const c =>
    cases c with
    | bool b => cases b <;> (simp only [Env.op, Option.some.injEq] at hx; subst hx; simp only [SV.den, Option.some.injEq] at hv; subst hv; rfl)
    | _ => simp only [Env.op, Option.some.injEq] at hx; subst hx; simp only [SV.den, Option.some.injEq] at hv; subst hv; rfl
  | global c => simp only [Env.op, Option.some.injEq] at hx; subst hx; simp only [SV.den, Option.some.injEq] at hv; subst hv; rfl
  | func c => simp only [Env.op, Option.some.injEq] at hx; subst hx; simp only [SV.den, Option.some.injEq] at hv; subst hv; rfl
theorem AgrW.va {a : Act} (h : AgrW a n e m) {x : Operand} {v : Value} (hx : e.va m x = some v) : a.eval x = v := by
  unfold Env.va at hx
  cases hs : e.op x with
  | none => rw [hs] at hx; cases hx
  | some s => rw [hs] at hx; exact h.op hs hx
theorem own_addrW {a : Act} (ha : AgrW a n e m) {x : Operand} {k q : Nat} (hx : e.op x = some (.own k q)) {s : Slot} (hk : m[k]? = some s) : a.eval x = .pointer (some ⟨s.b, q, none⟩) :=
  ha.op hx (by simp [SV.den, hk])
def okS (m : Mem) : SV → Bool
  | .own k _ => match nth m k with
    | some _ => true
    | none => false
  | _ => true
theorem okS_den {s : SV} (h : okS m s = true) : ∃ v, s.den m = some v := by
  cases s with
  | own k q =>
    simp only [okS] at h
    split at h
    · rename_i sl hk; rw [nth_eq] at hk; exact ⟨.pointer (some ⟨sl.b, q, none⟩), by simp [SV.den, hk]⟩
    · cases h
  | val v => exact ⟨v, rfl⟩
  | tt => exact ⟨_, rfl⟩
  | ff => exact ⟨_, rfl⟩
/-- An operation that yields a value and leaves all as it is. -/
structure YN (P : Program) (n : Cfg) (o : Oper) (e : Env) (m : Mem) (g : GH) (K : SV → Prop) : Prop where
  ok : ∃ s : SV, (∀ a, AgrW a n e m → ∃ v, s.den m = some v ∧ ∀ w, Has w g m → (execOp a.eval o).run P w = .ok (.value v) w) ∧ K s
theorem YN.mk' {K : SV → Prop} (s : SV) (h : ∀ a, AgrW a n e m → ∃ v, s.den m = some v ∧ ∀ w, Has w g m → (execOp a.eval o).run P w = .ok (.value v) w) (k : K s) : YN P n o e m g K := ⟨s, h, k⟩
theorem OOK.yn {K : Env → Mem → GH → Prop} (h : YN P n o e m g fun s => putK n o.dst s e fun e => K e m g) : OOK P n o e m g K := by
  obtain ⟨s, h1, h2⟩ := h.ok
  exact ⟨fun a w ha hw next Q hn hX => by
    obtain ⟨v, h3, h4⟩ := h1 a ha.w
    obtain ⟨e', h5, h6⟩ := putK_ok h2 ha h3
    unfold Oper.wp
    rw [h4 w hw]
    exact hn _ _ e' m g h5 hw (.refl _ _ _) h6⟩

theorem YN.load {t : TypeId} {x : Operand} {K : SV → Prop} {a : Addr} {v : Value} (hop : o.op = .load t x) (hx : e.va m x = some (.pointer (some a))) (ht : aggN P t = some none)
    (hc : cellG g a = some v) (k : K (.val v)) : YN P n o e m g K :=
  .mk' (.val v) (fun ac ha => ⟨v, rfl, fun w hw => by
    simp [execOp, hop, ha.va hx, Instr.loadAt, Instr.sureAddr, loadVar, aggN_none ht, Go.load, Sem.run, hw.cellG hc]⟩) k
theorem YN.loads {t : TypeId} {x : Operand} {K : SV → Prop} {a : Addr} {cs : List Value} (hop : o.op = .load t x) (hx : e.va m x = some (.pointer (some a))) (ht : aggN P t = some (some cs.length))
    (hc : Reads g a cs) (k : K (.val (.agg cs.toArray))) : YN P n o e m g K :=
  .mk' (.val (.agg cs.toArray)) (fun ac ha => ⟨.agg cs.toArray, rfl, fun w hw => by
    obtain ⟨h3, h4⟩ := aggN_some ht w
    have hl : (loadCells a cs.length).run P w = .ok cs.toArray w := run_loadCells_list (P := P) w a cs fun j v hj => by rw [← addN_eq]; exact hw.cellG (hc j v hj)
    simp [execOp, hop, ha.va hx, Instr.loadAt, Instr.sureAddr, loadVar, h3, h4, hl]⟩) k
/-- A read through a plain pointer into a slot of one's own. -/
theorem YN.loadOwn {t : TypeId} {x : Operand} {K : SV → Prop} {b q : Nat} {v : Value} (i : Nat) {c : List Value} {t' : TypeId} {fr : Nat × Nat} (hop : o.op = .load t x) (hx : e.va m x = some (.pointer (some ⟨b, q, none⟩))) (ht : aggN P t = some none)
    (hm : m[i]? = some ⟨b, .cells c t' fr⟩) (hc : c[q]? = some v) (k : K (.val v)) : YN P n o e m g K :=
  .mk' (.val v) (fun ac ha => ⟨v, rfl, fun w hw => by
    have hb := hw.own _ (List.mem_of_getElem? hm) _ rfl
    rw [show (Slot.mk b (.cells c t' fr)).b = b from rfl] at hb
    have hcell : w.cell? ⟨b, q, none⟩ = some v := by
      simp only [World.cell?, hb]
      simpa using hc
    simp [execOp, hop, ha.va hx, Instr.loadAt, Instr.sureAddr, loadVar, aggN_none ht, Go.load, Sem.run, hcell]⟩) k
theorem YN.loadsOwn {t : TypeId} {x : Operand} {K : SV → Prop} {b q : Nat} {cs : List Value} (i : Nat) {c : List Value} {t' : TypeId} {fr : Nat × Nat} (hop : o.op = .load t x) (hx : e.va m x = some (.pointer (some ⟨b, q, none⟩))) (ht : aggN P t = some (some cs.length))
    (hm : m[i]? = some ⟨b, .cells c t' fr⟩) (hc : ∀ j v, cs[j]? = some v → c[q + j]? = some v) (k : K (.val (.agg cs.toArray))) : YN P n o e m g K :=
  .mk' (.val (.agg cs.toArray)) (fun ac ha => ⟨.agg cs.toArray, rfl, fun w hw => by
    obtain ⟨h3, h4⟩ := aggN_some ht w
    have hb := hw.own _ (List.mem_of_getElem? hm) _ rfl
    rw [show (Slot.mk b (.cells c t' fr)).b = b from rfl] at hb
    have hl : (loadCells ⟨b, q, none⟩ cs.length).run P w = .ok cs.toArray w := run_loadCells_list (P := P) w _ cs fun j v hj => by
      rw [add_plain]
      simp only [World.cell?, hb]
      simpa using hc j v hj
    simp [execOp, hop, ha.va hx, Instr.loadAt, Instr.sureAddr, loadVar, h3, h4, hl]⟩) k

/-- The value operations, for what stands in a region that draws its order. -/
def vcV (P : Program) (n : Cfg) (o : Oper) (e : Env) (m : Mem) (g : GH) (K : SV → Prop) : Prop :=
  match o.op with
  | .move x => match e.op x with
    | some s => match okS m s with
      | true => K s
      | false => False
    | none => False
  | .assign x => match e.op x with
    | some s => match okS m s with
      | true => K s
      | false => False
    | none => False
  | .pick c a b => match e.op c with
    | some .tt => match e.op a with
      | some s => match okS m s with
        | true => K s
        | false => False
      | none => False
    | some .ff => match e.op b with
      | some s => match okS m s with
        | true => K s
        | false => False
      | none => False
    | some (.val (.bool t)) => match e.va m a, e.va m b with
      | some (.bool x), some (.bool y) => K (.val (.bool (cond t x y)))
      | some x, some y => K (.val (cond t x y))
      | _, _ => False
    | _ => False
  | .nilCheck x => match e.op x with
    | some (.own k q) => match nth m k with
      | some _ => K (.own k q)
      | none => False
    | _ => match pv P (e.va m) (.nilCheck x) with
      | .val v => K (.val v)
      | .need c v => ONeed c (K (.val v))
      | .no => YN P n o e m g K
  | .fieldAddr s x f => match e.op x with
    | some (.own k q) => match P.underlying s, nth m k with
      | some (.struct fs), some _ => match fs.toList[f]? with
        | some fd => match P.info? fd.type with
          | some i => match Nat.beq i.size 0 with
            | false => K (.own k (q + fd.offset))
            | true => False
          | none => False
        | none => False
      | _, _ => False
    | _ => match pv P (e.va m) (.fieldAddr s x f) with
      | .val v => K (.val v)
      | .need c v => ONeed c (K (.val v))
      | .no => YN P n o e m g K
  | .load t x => match e.op x with
    | some (.own k q) => match nth m k with
      | some ⟨b, .cells c t' fr⟩ => match aggN P t with
        | some none => match nthV c q with
          | some v => K (.val v)
          | none => False
        | some (some sz) => match seg c q sz with
          | some l => K (.val (.agg l.toArray))
          | none => False
        | none => False
      | _ => YN P n o e m g K
    | _ => YN P n o e m g K
  | op => match pv P (e.va m) op with
    | .val v => K (.val v)
    | .need c v => ONeed c (K (.val v))
    | .no => YN P n o e m g K
theorem YN.pv {K : SV → Prop} (h : match pv P (e.va m) o.op with
      | .val v => K (.val v)
      | .need c v => ONeed c (K (.val v))
      | .no => YN P n o e m g K) : YN P n o e m g K := by
  have key : ∀ r, Go.SX.pv P (e.va m) o.op = r → YN P n o e m g K := by
    intro r hr
    rw [hr] at h
    cases r with
    | no => exact h
    | val v =>
      refine .mk' (.val v) (fun a ha => ⟨v, rfl, fun w hw => ?_⟩) h
      have := pv_ok (P := P) (ρ := e.va m) (ρ' := a.eval) (fun x v hx => ha.va hx) (fun _ => rfl) (o := o)
      rw [hr] at this
      exact this w
    | need c v =>
      refine .mk' (.val v) (fun a ha => ⟨v, rfl, fun w hw => ?_⟩) h.k
      have := pv_ok (P := P) (ρ := e.va m) (ρ' := a.eval) (fun x v hx => ha.va hx) (fun _ => rfl) (o := o)
      rw [hr] at this
      exact this h.c w
  exact key _ rfl
theorem YN.same {K : SV → Prop} {x : Operand} {s : SV} (hs : e.op x = some s) (ho : okS m s = true) (hy : ∀ a w, AgrW a n e m → Has w g m → (execOp a.eval o).run P w = .ok (.value (a.eval x)) w) (k : K s) : YN P n o e m g K := by
  obtain ⟨v, hv⟩ := okS_den ho
  exact .mk' s (fun a ha => ⟨v, hv, fun w hw => by rw [hy a w ha hw, ha.op hs hv]⟩) k
theorem vcV_ok {K : SV → Prop} (h : vcV P n o e m g K) : YN P n o e m g K := by
  cases hop : o.op
  case move x =>
    simp only [vcV, hop] at h
    split at h
    · rename_i s hs
      split at h
      · rename_i ho; exact YN.same hs ho (fun a w ha hw => by simp [execOp, hop]) h
      · exact h.elim
    · exact h.elim
  case assign x =>
    simp only [vcV, hop] at h
    split at h
    · rename_i s hs
      split at h
      · rename_i ho; exact YN.same hs ho (fun a w ha hw => by simp [execOp, hop]) h
      · exact h.elim
    · exact h.elim
  case pick c x y =>
    simp only [vcV, hop] at h
    split at h
    · rename_i hc
      split at h
      · rename_i s hs
        split at h
        · rename_i ho
          exact YN.same hs ho (fun a w ha hw => by
            have hc' : a.eval c = .bool true := ha.op hc rfl
            simp [execOp, hop, hc', asBool]) h
        · exact h.elim
      · exact h.elim
    · rename_i hc
      split at h
      · rename_i s hs
        split at h
        · rename_i ho
          exact YN.same hs ho (fun a w ha hw => by
            have hc' : a.eval c = .bool false := ha.op hc rfl
            simp [execOp, hop, hc', asBool]) h
        · exact h.elim
      · exact h.elim
    · rename_i t hc
      split at h
      · rename_i p q hp hq
        refine .mk' (.val (.bool (cond t p q))) (fun a ha => ⟨_, rfl, fun w hw => ?_⟩) h
        have hc' : a.eval c = .bool t := ha.op hc rfl
        cases t <;> simp [execOp, hop, hc', asBool, ha.va hp, ha.va hq]
      · rename_i p q _ hp hq
        refine .mk' (.val (cond t p q)) (fun a ha => ⟨_, rfl, fun w hw => ?_⟩) h
        have hc' : a.eval c = .bool t := ha.op hc rfl
        cases t <;> simp [execOp, hop, hc', asBool, ha.va hp, ha.va hq]
      · exact h.elim
    · exact h.elim
  case nilCheck x =>
    simp only [vcV, hop] at h
    split at h
    · rename_i k q hx
      split at h
      · rename_i s hk
        rw [nth_eq] at hk
        exact YN.same hx (by simp [okS, nth_eq, hk]) (fun a w ha hw => by simp [execOp, hop, own_addrW ha hx hk]) h
      · exact h.elim
    · exact YN.pv (by rw [hop]; exact h)
  case fieldAddr s x f =>
    simp only [vcV, hop] at h
    split at h
    · rename_i k q hx
      split at h
      · rename_i fs sl hu hk
        rw [nth_eq] at hk
        split at h
        · rename_i fd hf
          split at h
          · rename_i i hi
            split at h
            · rename_i hz
              have hz' : i.size ≠ 0 := fun e => by rw [e] at hz; simp at hz
              have hf' : fs[f]? = some fd := by simpa using hf
              exact .mk' (.own k (q + fd.offset)) (fun a ha => ⟨.pointer (some ⟨sl.b, q + fd.offset, none⟩), by simp [SV.den, hk], fun w hw => by
                simp [execOp, hop, own_addrW ha hx hk, Instr.fieldAt, run_underlying hu, hf', Instr.sureAddr, fieldPlace, run_size hi, hz', add_plain]⟩) h
            · exact h.elim
          · exact h.elim
        · exact h.elim
      · exact h.elim
    · exact YN.pv (by rw [hop]; exact h)
  case load t x =>
    simp only [vcV, hop] at h
    split at h
    · rename_i k q hx
      split at h
      · rename_i b c t' fr hk
        rw [nth_eq] at hk
        have hval : e.va m x = some (.pointer (some ⟨b, q, none⟩)) := by simp [Env.va, hx, SV.den, hk]
        split at h
        · rename_i ht
          split at h
          · rename_i v hv; rw [nthV_eq] at hv; exact YN.loadOwn k hop hval ht hk hv h
          · exact h.elim
        · rename_i sz ht
          split at h
          · rename_i l hl
            obtain ⟨h1, h2⟩ := seg_eq _ _ _ _ hl
            exact YN.loadsOwn k hop hval (by rw [h1]; exact ht) hk h2 h
          · exact h.elim
        · exact h.elim
      · exact h
    · exact h
  all_goals exact YN.pv (by simpa only [vcV, hop] using h)

/-! ### a region that draws its order and changes nothing -/
/-- The worlds in which what is known holds, that 'w' may have come to. -/
def Cls (w : World) (m : Mem) (g : GH) (w' : World) : Prop := Has w' g m ∧ Fr w m g w' m g
structure QN (P : Program) (n : Cfg) (o : Oper) (e : Env) (m : Mem) (g : GH) (K : SV → Prop) : Prop where
  ok : ∃ s : SV, (∀ a, Agr a n e m → ∃ v, s.den m = some v ∧ ∀ w w', Cls w m g w' → o.quietAt P a (Cls w m g) w' v) ∧ K s
theorem QN.yn {K : SV → Prop} (h : YN P n o e m g K) : QN P n o e m g K := by
  obtain ⟨s, h1, h2⟩ := h.ok
  refine ⟨s, fun a ha => ?_, h2⟩
  obtain ⟨v, h3, h4⟩ := h1 a ha.w
  refine ⟨v, h3, fun w w' hw' => ?_⟩
  unfold Oper.quietAt
  rw [h4 w' hw'.1]
  exact ⟨rfl, rfl⟩
def vcQ (P : Program) (n : Cfg) (o : Oper) (e : Env) (m : Mem) (g : GH) (K : SV → Prop) : Prop :=
  match o.op with
  | .call ⟨.value f, as, ts⟩ => QN P n o e m g K
  | .call ⟨.invoke f s, as, ts⟩ => QN P n o e m g K
  | _ => vcV P n o e m g K
theorem vcQ_ok {K : SV → Prop} (h : vcQ P n o e m g K) : QN P n o e m g K := by
  unfold vcQ at h
  split at h
  · exact h
  · exact h
  · exact .yn (vcV_ok h)
def vcQs (P : Program) (n : Cfg) (all : List Oper) : List Oper → Env → Mem → GH → (Env → Prop) → Prop
  | [], e, m, g, K => K e
  | o :: r, e, m, g, K => match o.guard with
    | none => vcQ P n o e m g fun s => putK n o.dst s e fun e => vcQs P n all r e m g K
    | some (j, want) => match nthO all j with
      | none => False
      | some oj => match oj.dst with
        | none => False
        | some t => match e.get t with
          | some .tt => match want with
            | true => vcQ P n o e m g fun s => putK n o.dst s e fun e => vcQs P n all r e m g K
            | false => putK n o.dst (.val undef) e fun e => vcQs P n all r e m g K
          | some .ff => match want with
            | false => vcQ P n o e m g fun s => putK n o.dst s e fun e => vcQs P n all r e m g K
            | true => putK n o.dst (.val undef) e fun e => vcQs P n all r e m g K
          | some (.val (.bool b)) => match want with
            | true => OSplit b (vcQ P n o ((t, .tt) :: e) m g fun s => putK n o.dst s ((t, .tt) :: e) fun e => vcQs P n all r e m g K) (putK n o.dst (.val undef) ((t, .ff) :: e) fun e => vcQs P n all r e m g K)
            | false => OSplit b (putK n o.dst (.val undef) ((t, .tt) :: e) fun e => vcQs P n all r e m g K) (vcQ P n o ((t, .ff) :: e) m g fun s => putK n o.dst s ((t, .ff) :: e) fun e => vcQs P n all r e m g K)
          | some (.val v) => match notBool v with
            | true => putK n o.dst (.val undef) e fun e => vcQs P n all r e m g K
            | false => False
          | _ => False
theorem vcQs_ok {ops : Array Oper} : ∀ (l : List Oper) (e : Env) (K : Env → Prop), vcQs P n ops.toList l e m g K → ∀ a, Agr a n e m → ∀ w, wpQuiet P ops (Cls w m g) (fun a' => ∃ e', Agr a' n e' m ∧ K e') l a
  | [], e, K, h, a, ha, w => ⟨e, ha, h⟩
  | o :: r, e, K, h, a, ha, w => by
    have go : ∀ {e : Env}, Agr a n e m → Region.wanted o (yielded ops a.tmps) = true → (vcQ P n o e m g fun s => putK n o.dst s e fun e => vcQs P n ops.toList r e m g K) →
        wpQuiet P ops (Cls w m g) (fun a' => ∃ e', Agr a' n e' m ∧ K e') (o :: r) a := by
      intro e ha hw h
      obtain ⟨s, h1, h2⟩ := (vcQ_ok h).ok
      obtain ⟨v, h3, h4⟩ := h1 a ha
      obtain ⟨e', h5, h6⟩ := putK_ok h2 ha h3
      unfold wpQuiet
      rw [if_pos hw]
      exact ⟨v, fun w' hw' => h4 w w' hw', vcQs_ok r e' K h6 _ h5 w⟩
    have sk : ∀ {e : Env}, Agr a n e m → Region.wanted o (yielded ops a.tmps) = false → (putK n o.dst (.val undef) e fun e => vcQs P n ops.toList r e m g K) →
        wpQuiet P ops (Cls w m g) (fun a' => ∃ e', Agr a' n e' m ∧ K e') (o :: r) a := by
      intro e ha hw h
      obtain ⟨e', h5, h6⟩ := putK_ok h ha (v := undef) rfl
      unfold wpQuiet
      rw [if_neg (by simp [hw])]
      exact vcQs_ok r e' K h6 _ h5 w
    simp only [vcQs] at h
    split at h
    · rename_i hg
      exact go ha (by simp [Region.wanted, hg]) h
    · rename_i j want hg
      split at h
      · exact h.elim
      · rename_i oj hj
        rw [nthO_eq] at hj
        split at h
        · exact h.elim
        · rename_i t ht
          have hjt : (ops[j]?).bind (·.dst) = some t := by
            have : ops[j]? = some oj := by simpa using hj
            simp [this, ht]
          have wt : ∀ {e : Env} {x : SV} {b : Bool}, Agr a n e m → e.get t = some x → x.den m = some (.bool b) → Region.wanted o (yielded ops a.tmps) = (b == want) := fun ha hx hd => by
            simp [Region.wanted, hg, yielded_of ha hjt hx hd]
          split at h
          · rename_i hx
            split at h
            · exact go ha (wt ha hx (b := true) rfl) h
            · exact sk ha (wt ha hx (b := true) rfl) h
          · rename_i hx
            split at h
            · exact go ha (wt ha hx (b := false) rfl) h
            · exact sk ha (wt ha hx (b := false) rfl) h
          · rename_i b hx
            have g1 : Env.get ((t, SV.tt) :: e) t = some .tt := by simp [Env.get_cons]
            have g2 : Env.get ((t, SV.ff) :: e) t = some .ff := by simp [Env.get_cons]
            obtain ⟨k1, k2⟩ := ha.know hx
            split at h
            · cases b with
              | true => exact go (k1 rfl) (wt (k1 rfl) g1 (b := true) rfl) (h.t rfl)
              | false => exact sk (k2 rfl) (wt (k2 rfl) g2 (b := false) rfl) (h.f rfl)
            · cases b with
              | true => exact sk (k1 rfl) (wt (k1 rfl) g1 (b := true) rfl) (h.t rfl)
              | false => exact go (k2 rfl) (wt (k2 rfl) g2 (b := false) rfl) (h.f rfl)
          · rename_i v _ hx
            split at h
            · rename_i hv
              exact sk ha (not_wanted ha hg hjt hx hv) h
            · exact h.elim
          · exact h.elim
theorem wpQuiet_mono_ {ops : Array Oper} {C : World → Prop} {Q Q' : Act → Prop} : ∀ (l : List Oper) (a : Act), (∀ a, Q a → Q' a) → wpQuiet P ops C Q l a → wpQuiet P ops C Q' l a
  | [], a, h, hq => h a hq
  | o :: r, a, h, hq => by
    unfold wpQuiet at hq ⊢
    split
    · rename_i hw; rw [if_pos hw] at hq; exact Oper.quiet_mono (fun a ha => wpQuiet_mono_ r a h ha) hq
    · rename_i hw; rw [if_neg hw] at hq; exact wpQuiet_mono_ r _ h hq
theorem Has.drawn {w g m} (h : Has w g m) : Has { w with drawn := w.drawn + 1 } g m := ⟨h.sub, h.own, h.inj, h.apart⟩
theorem Fr.drawn {w : World} {g m} : Fr w m g { w with drawn := w.drawn + 1 } m g := ⟨rfl, rfl, rfl, Nat.le_refl _, .refl _, fun _ _ _ => rfl, fun _ _ _ => rfl, fun _ _ h => h⟩
/-- A region that draws its order, all of it quiet: the text's order serves. -/
theorem COK.quiet {i : Nat} {ops : Array Oper} {K : KK} (hm : P.follows .mixedOrders = true) (hB : Region.lexB .any ops = true) (h : vcQs P n ops.toList ops.toList e m g fun e => K .normal e m g) :
    COK P n (.region i ops true) e m g K :=
  ⟨fun a w ha hw => by
    have hq := vcQs_ok (ops := ops) ops.toList e _ h a ha w
    refine wp_region_quiet hm hB (C := Cls w m g) ⟨hw.drawn, Fr.drawn⟩ ?_
    refine wpQuiet_mono_ ops.toList a ?_ hq
    rintro a' ⟨e', h1, h2⟩ w' hw'
    exact ⟨e', m, g, h1, hw'.1, hw'.2, .inl h2⟩⟩
end
end Go.SX
