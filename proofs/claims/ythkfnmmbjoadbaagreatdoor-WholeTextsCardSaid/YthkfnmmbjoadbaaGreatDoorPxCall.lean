/- SX, part 7: calls by contract; what is one's own made known for good; stores through a plain pointer. -/
import Derived.Test.YthkfnmmbjoadbaaGreatDoorPxNode
set_option linter.unusedVariables false
set_option linter.unusedSimpArgs false
namespace Go.SX

def updM : Mem → List Nat → Mem → Mem
  | m, i :: is, s :: r => updM (m.set i s) is r
  | m, _, _ => m
theorem updM_ok : ∀ (is : List Nat) (m l : Mem), is.Nodup → is.length = l.length → (∀ i ∈ is, i < m.length) →
    (updM m is l).length = m.length ∧ (∀ i k : Nat, is[i]? = some k → (updM m is l)[k]? = l[i]?) ∧ (∀ k : Nat, k ∉ is → (updM m is l)[k]? = m[k]?)
  | [], m, l, _, hl, _ => by
    cases l with
    | nil => exact ⟨rfl, fun i k h => by simp at h, fun _ _ => rfl⟩
    | cons => simp at hl
  | i :: is, m, l, hn, hl, hlt => by
    cases l with
    | nil => simp at hl
    | cons s r =>
      obtain ⟨hn1, hn2⟩ := List.nodup_cons.1 hn
      obtain ⟨h1, h2, h3⟩ := updM_ok is (m.set i s) r hn2 (by simpa using hl) (fun j hj => by simpa using hlt j (by simp [hj]))
      refine ⟨by simpa [updM] using h1, fun j k hk => ?_, fun k hk => ?_⟩
      · cases j with
        | zero =>
          simp at hk; subst hk
          simp only [updM]
          rw [h3 _ hn1]
          simp [List.getElem?_set_self (hlt i (by simp))]
        | succ j => simpa [updM] using h2 j k (by simpa using hk)
      · simp only [List.mem_cons, not_or] at hk
        simp only [updM]
        rw [h3 k hk.2, List.getElem?_set_ne (fun e => hk.1 e.symm)]
def appF : Mem → Mem → (Mem → Prop) → Prop
  | [], r, K => K r
  | x :: m, r, K => appF m r fun l => K (x :: l)
theorem appF_eq : ∀ (m r : Mem) (K : Mem → Prop), appF m r K ↔ K (m ++ r)
  | [], r, K => Iff.rfl
  | x :: m, r, K => by simp only [appF, appF_eq m r, List.cons_append]
def updF : Mem → List Nat → Mem → (Mem → Prop) → Prop
  | m, [], r, K => appF m r K
  | m, i :: is, s :: r, K => match setM m i s with
    | some m1 => updF m1 is r K
    | none => False
  | _, _ :: _, [], _ => False
theorem updF_ok : ∀ (is : List Nat) (m m' : Mem) (K : Mem → Prop), updF m is m' K → is.length ≤ m'.length ∧ (∀ i ∈ is, i < m.length) ∧ K (updM m is (m'.take is.length) ++ m'.drop is.length)
  | [], m, m', K, h => by
    have := (appF_eq m m' K).1 (by simpa only [updF] using h)
    exact ⟨Nat.zero_le _, fun i hi => by simp at hi, by simpa [updM] using this⟩
  | i :: is, m, [], K, h => h.elim
  | i :: is, m, s :: r, K, h => by
    simp only [updF] at h
    split at h
    · rename_i m1 hm
      obtain ⟨rfl, hlt⟩ := setM_eq _ _ _ _ hm
      obtain ⟨h1, h2, h3⟩ := updF_ok is _ r K h
      refine ⟨by simpa using h1, fun j hj => ?_, by simpa [updM] using h3⟩
      rcases List.mem_cons.1 hj with rfl | hj
      · exact hlt
      · simpa using h2 j hj
    · exact h.elim
/-- Where the slots of the memory behind a call come from. -/
theorem merge_cases {m m' : Mem} {is : List Nat} (hn : is.Nodup) (hl : is.length ≤ m'.length) (hlt : ∀ i ∈ is, i < m.length) {j : Nat} {s : Slot}
    (h : (updM m is (m'.take is.length) ++ m'.drop is.length)[j]? = some s) :
    (∃ i, m'[i]? = some s ∧ (i < is.length → is[i]? = some j) ∧ (is.length ≤ i → j = m.length + (i - is.length))) ∨ (j ∉ is ∧ m[j]? = some s) := by
  obtain ⟨h1, h2, h3⟩ := updM_ok is m (m'.take is.length) hn (by simp; omega) hlt
  rcases Nat.lt_or_ge j m.length with hj | hj
  · rw [List.getElem?_append_left (by omega)] at h
    by_cases hm : j ∈ is
    · obtain ⟨i, hi⟩ := List.mem_iff_getElem?.1 hm
      have hil : i < is.length := (List.getElem?_eq_some_iff.1 hi).1
      rw [h2 i j hi, List.getElem?_take_of_lt hil] at h
      exact .inl ⟨i, h, fun _ => hi, fun h => by omega⟩
    · rw [h3 j hm] at h
      exact .inr ⟨hm, h⟩
  · rw [List.getElem?_append_right (by omega), h1] at h
    left
    refine ⟨is.length + (j - m.length), by simpa using h, fun h => by omega, fun _ => by omega⟩
theorem pick_ow {w g m ow} {is : List Nat} (h : Has w g m) (hn : is.Nodup) (hp : is.map (fun i => m[i]?) = ow.map some) : Has w g ow :=
  h.sub_ (E := []) (e := []) (is := is) ⟨hn, hp, fun t x hx => by simp [Env.get] at hx⟩
theorem not_ow {w g m ow} {is : List Nat} (h : Has w g m) (hp : is.map (fun i => m[i]?) = ow.map some) {j : Nat} {s : Slot} (hj : m[j]? = some s) (hs : s.live = true) (hni : j ∉ is) : s.b ∉ Mem.lives ow := by
  intro hm
  obtain ⟨t, ht, hb, o, ho⟩ := Mem.mem_lives.1 hm
  obtain ⟨i, hi1, hi2⟩ := pick_mem hp ht
  have := h.inj j i s t hj hi2 hs (live_iff.2 ⟨o, ho⟩) hb.symm
  exact hni (this ▸ hi1)
theorem merge_ok {w w' g g' m m' ow} {is : List Nat} (hw : Has w g m) (hn : is.Nodup) (hp : is.map (fun i => m[i]?) = ow.map some) (hl : is.length ≤ m'.length) (hlt : ∀ i ∈ is, i < m.length)
    (he : ow.ext m') (hw' : Has w' g' m') (hf : Fr w ow g w' m' g') :
    Has w' g' (updM m is (m'.take is.length) ++ m'.drop is.length) ∧ Fr w m g w' (updM m is (m'.take is.length) ++ m'.drop is.length) g' ∧ m.ext (updM m is (m'.take is.length) ++ m'.drop is.length) := by
  have hlv : ∀ {j : Nat} {s : Slot}, m[j]? = some s → s.live = true → s.b ∈ m.lives := fun hj hs => Mem.mem_lives.2 ⟨_, List.mem_of_getElem? hj, rfl, live_iff.1 hs⟩
  have hlv' : ∀ {j : Nat} {s : Slot}, m'[j]? = some s → s.live = true → s.b ∈ m'.lives := fun hj hs => Mem.mem_lives.2 ⟨_, List.mem_of_getElem? hj, rfl, live_iff.1 hs⟩
  have cross : ∀ {i j : Nat} {s t : Slot}, m'[i]? = some s → m[j]? = some t → j ∉ is → s.live = true → t.live = true → s.b ≠ t.b := by
    intro i j s t hi hj hni hs ht hb
    have h1 := not_ow hw hp hj ht hni
    have h2 := hf.mnew t.b (hw.lt (hlv hj ht)) h1
    exact h2 (hb ▸ hlv' hi hs)
  refine ⟨⟨hw'.sub, ?_, ?_, ?_⟩, ?_, ?_⟩
  · intro s hs o ho
    obtain ⟨j, hj⟩ := List.mem_iff_getElem?.1 hs
    rcases merge_cases hn hl hlt hj with ⟨i, hi, _⟩ | ⟨hni, hj'⟩
    · exact hw'.own s (List.mem_of_getElem? hi) o ho
    · have hs' := live_iff.2 ⟨o, ho⟩
      rw [hf.keep s.b (hw.lt (hlv hj' hs')) (not_ow hw hp hj' hs' hni)]
      exact hw.own s (List.mem_of_getElem? hj') o ho
  · intro j1 j2 s t h1 h2 hs ht hb
    rcases merge_cases hn hl hlt h1 with ⟨i1, k1, a1, b1⟩ | ⟨n1, k1⟩ <;> rcases merge_cases hn hl hlt h2 with ⟨i2, k2, a2, b2⟩ | ⟨n2, k2⟩
    · have := hw'.inj i1 i2 s t k1 k2 hs ht hb
      subst this
      rcases Nat.lt_or_ge i1 is.length with hi | hi
      · exact Option.some.inj ((a1 hi).symm.trans (a2 hi))
      · rw [b1 hi, b2 hi]
    · exact (cross k1 k2 n2 hs ht hb).elim
    · exact (cross k2 k1 n1 ht hs hb.symm).elim
    · exact hw.inj j1 j2 s t k1 k2 hs ht hb
  · intro b hb
    obtain ⟨s, hs, rfl, o, ho⟩ := Mem.mem_lives.1 hb
    obtain ⟨j, hj⟩ := List.mem_iff_getElem?.1 hs
    rcases merge_cases hn hl hlt hj with ⟨i, hi, _⟩ | ⟨hni, hj'⟩
    · exact hw'.apart _ (hlv' hi (live_iff.2 ⟨o, ho⟩))
    · have hs' := live_iff.2 ⟨o, ho⟩
      rw [hf.gnew s.b (hw.lt (hlv hj' hs')) (not_ow hw hp hj' hs' hni)]
      exact hw.apart _ (hlv hj' hs')
  · have hsub : ∀ b, b ∉ m.lives → b ∉ Mem.lives ow := fun b hb h => hb (pick_lives hp b h)
    refine ⟨hf.os, hf.tape, hf.output, hf.size, hf.le, fun b hb hm => hf.keep b hb (hsub b hm), fun b hb hm => hf.gnew b hb (hsub b hm), fun b hb hm h => ?_⟩
    obtain ⟨s, hs, rfl, o, ho⟩ := Mem.mem_lives.1 h
    obtain ⟨j, hj⟩ := List.mem_iff_getElem?.1 hs
    rcases merge_cases hn hl hlt hj with ⟨i, hi, _⟩ | ⟨hni, hj'⟩
    · exact hf.mnew s.b hb (hsub _ hm) (hlv' hi (live_iff.2 ⟨o, ho⟩))
    · exact hm (hlv hj' (live_iff.2 ⟨o, ho⟩))
  · intro k s hk
    obtain ⟨h1, h2, h3⟩ := updM_ok is m (m'.take is.length) hn (by simp; omega) hlt
    have hkl : k < m.length := (List.getElem?_eq_some_iff.1 hk).1
    rw [List.getElem?_append_left (by omega)]
    by_cases hm : k ∈ is
    · obtain ⟨i, hi⟩ := List.mem_iff_getElem?.1 hm
      have hil : i < is.length := (List.getElem?_eq_some_iff.1 hi).1
      have h4 : (is.map (fun i => m[i]?))[i]? = (ow.map some)[i]? := by rw [hp]
      simp only [List.getElem?_map, hi, Option.map_some] at h4
      cases ho : ow[i]? with
      | none => rw [ho] at h4; cases h4
      | some u =>
        rw [ho] at h4
        simp only [Option.map_some, Option.some.injEq] at h4
        have : s = u := Option.some.inj (hk.symm.trans h4)
        subst this
        obtain ⟨s', h5, h6⟩ := he i s ho
        exact ⟨s', by rw [h2 i k hi, List.getElem?_take_of_lt hil]; exact h5, h6⟩
    · exact ⟨s, by rw [h3 k hm]; exact hk, rfl⟩

def calleeOk (P : Program) (f : FuncId) : Bool :=
  match P.funcs[f]? with
  | some fn => !(fn.name == "runtime.NumGoroutine") && fn.body.isSome
  | none => false
section
variable {P : Program} {n : Cfg} {o : Oper} {e : Env} {m : Mem} {g : GH}

theorem run_call {ρ : Operand → Value} {fx : Operand} {xs : Array Operand} {ts : Array TypeId} {f : FuncId} {first cap : Array Value} {vs args : List Value} (hop : o.op = .call ⟨.value fx, xs, ts⟩)
    (hf : ρ fx = .func (.func f) first cap) (hxs : xs.toList.map ρ = vs) (hok : calleeOk P f = true) (hargs : first.toList ++ (vs ++ cap.toList) = args) (w : World) :
    (execOp ρ o).run P w = .ok (.enter f args.toArray) w := by
  unfold calleeOk at hok
  split at hok
  · rename_i fn hfn
    simp only [Bool.and_eq_true, Bool.not_eq_true'] at hok
    obtain ⟨h1, h2⟩ := hok
    have hxs' : xs.map ρ = vs.toArray := by apply Array.toList_inj.1; simp [hxs]
    have hbn : fn.body.isNone = false := by cases hb : fn.body with | none => rw [hb] at h2; cases h2 | some c => rfl
    have harr : first ++ vs.toArray ++ cap = args.toArray := by apply Array.toList_inj.1; simp [← hargs]
    simp only [execOp, hop, resolve, hf, Deferred.ofValue, Sem.run_bind, Sem.run_pure, Result.andThen_ok, invoke, callFunc, run_program, hfn, h1, hbn, hxs', Bool.false_eq_true, if_false, harr]
  · cases hok

/-- A call, by the callee's contract; 'is': the slots that it is handed. -/
theorem OOK.callE {K : Env → Mem → GH → Prop} {fx : Operand} {xs : Array Operand} {ts : Array TypeId} {f : FuncId} {first cap : Array Value} {vs args : List Value} {ow : Mem} {X : List PanicEntry → Prop} {R : Value → GH → Mem → Prop} (is : List Nat)
    (hop : o.op = .call ⟨.value fx, xs, ts⟩) (hf : e.va m fx = some (.func (.func f) first cap)) (hxs : mapV (e.va m) xs.toList = some vs) (hok : calleeOk P f = true)
    (hargs : first.toList ++ (vs ++ cap.toList) = args) (h : TriE P f args g ow X R) (hn : is.Nodup) (hp : is.map (fun i => m[i]?) = ow.map some) (hXX : ∀ ch, X ch → n.X ch)
    (hk : ∀ v g' m', g.le g' → R v g' m' → updF m is m' fun M => putK n o.dst (.val v) e fun e => K e M g') : OOK P n o e m g K := by
  refine ⟨fun a w ha hw next Q hnx hX => ?_⟩
  have hrun := run_call (P := P) (ρ := a.eval) hop (ha.va hf) (mapV_ok (fun x v hx => ha.va hx) _ _ hxs) hok hargs w
  unfold Oper.wp
  rw [hrun]
  refine (h w (pick_ow hw hn hp)).mono ?_
  rintro en w' (⟨v, g', m', rfl, hR, he, hw', hfr⟩ | ⟨ch, g', rfl, hx, hw', hfr⟩)
  · obtain ⟨hl, hlt, hK⟩ := updF_ok is m m' _ (hk v g' m' hfr.le hR)
    obtain ⟨k1, k2, k3⟩ := merge_ok hw hn hp hl hlt he hw' hfr
    obtain ⟨e', h5, h6⟩ := putK_ok hK (ha.ext k3) (v := v) rfl
    exact hnx _ _ e' _ g' h5 k1 k2 h6
  · exact hX ch a w' g' ⟨ha.defers, ha.size, fun t x hx => by simp [Env.get] at hx⟩ hw' ⟨hfr.os, hfr.tape, hfr.output, hfr.size, hfr.le, fun b hb hm => hfr.keep b hb fun h => hm (pick_lives hp b h), fun b hb hm => hfr.gnew b hb fun h => hm (pick_lives hp b h), fun b _ _ hm => by simp [Mem.lives] at hm⟩ (hXX ch hx)
theorem OOK.call {K : Env → Mem → GH → Prop} {fx : Operand} {xs : Array Operand} {ts : Array TypeId} {f : FuncId} {first cap : Array Value} {vs args : List Value} {ow : Mem} {R : Value → GH → Mem → Prop} (is : List Nat)
    (hop : o.op = .call ⟨.value fx, xs, ts⟩) (hf : e.va m fx = some (.func (.func f) first cap)) (hxs : mapV (e.va m) xs.toList = some vs) (hok : calleeOk P f = true)
    (hargs : first.toList ++ (vs ++ cap.toList) = args) (h : Tri P f args g ow R) (hn : is.Nodup) (hp : is.map (fun i => m[i]?) = ow.map some)
    (hk : ∀ v g' m', g.le g' → R v g' m' → updF m is m' fun M => putK n o.dst (.val v) e fun e => K e M g') : OOK P n o e m g K :=
  .callE is hop hf hxs hok hargs (h.toE (X := fun _ => False)) hn hp (fun _ h => h.elim) hk
/-- A panic. -/
theorem OOK.panic {K : Env → Mem → GH → Prop} {x : Operand} {t : TypeId} {u : Value} (hop : o.op = .panic x) (hv : e.va m x = some (.iface t u)) (hX : n.X [{ v := .iface t u, recovered := false }]) : OOK P n o e m g K := by
  refine ⟨fun a w ha hw next Q hnx hX' => ?_⟩
  unfold Oper.wp
  have : (execOp a.eval o).run P w = .halt (.panic (.iface t u)) w := by
    simp [execOp, hop, ha.va hv, Instr.panic]
  rw [this]
  refine hX' _ a w g ⟨ha.defers, ha.size, fun t x hx => by simp [Env.get] at hx⟩ ⟨hw.sub, (fun s hs => by cases hs), (fun i j s t hi => by simp at hi), fun b hb => by simp [Mem.lives] at hb⟩ ⟨rfl, rfl, rfl, Nat.le_refl _, .refl _, fun _ _ _ => rfl, fun _ _ _ => rfl, fun b _ _ hm => by simp [Mem.lives] at hm⟩ hX
/-- A call among what is quiet: one value, nothing changed. -/
theorem QN.call {K : SV → Prop} {fx : Operand} {xs : Array Operand} {ts : Array TypeId} {f : FuncId} {first cap : Array Value} {vs args : List Value} {ow : Mem} {R : Value → GH → Mem → Prop} (v0 : Value) (is : List Nat)
    (hop : o.op = .call ⟨.value fx, xs, ts⟩) (hf : e.va m fx = some (.func (.func f) first cap)) (hxs : mapV (e.va m) xs.toList = some vs) (hok : calleeOk P f = true)
    (hargs : first.toList ++ (vs ++ cap.toList) = args) (h : Tri P f args g ow R) (hn : is.Nodup) (hp : is.map (fun i => m[i]?) = ow.map some)
    (hR : ∀ v g' m', g.le g' → R v g' m' → v = v0 ∧ m' = ow) (hk : K (.val v0)) : QN P n o e m g K := by
  refine ⟨.val v0, fun a ha => ⟨v0, rfl, fun w w' hw' => ?_⟩, hk⟩
  have hrun := run_call (P := P) (ρ := a.eval) hop (ha.va hf) (mapV_ok (fun x v hx => ha.va hx) _ _ hxs) hok hargs w'
  unfold Oper.quietAt
  rw [hrun]
  refine ⟨rfl, (h w' (pick_ow hw'.1 hn hp)).mono ?_⟩
  rintro en w'' ⟨v, g', m', rfl, hRR, he, hw'', hfr⟩
  obtain ⟨rfl, rfl⟩ := hR v g' m' hfr.le hRR
  have hall : ∀ {j : Nat} {s : Slot}, m[j]? = some s → ∀ {o : Obj}, s.o.ob = some o → w''.heap[s.b]? = some o := by
    intro j s hj o ho
    by_cases hm : j ∈ is
    · obtain ⟨i, hi⟩ := List.mem_iff_getElem?.1 hm
      have h4 : (is.map (fun i => m[i]?))[i]? = (m'.map some)[i]? := by rw [hp]
      simp only [List.getElem?_map, hi, Option.map_some] at h4
      cases ho' : m'[i]? with
      | none => rw [ho'] at h4; cases h4
      | some u =>
        rw [ho'] at h4
        simp only [Option.map_some, Option.some.injEq] at h4
        have : s = u := Option.some.inj (hj.symm.trans h4)
        subst this
        exact hw''.own s (List.mem_of_getElem? ho') o ho
    · have hs' := live_iff.2 ⟨o, ho⟩
      have hl : s.b ∈ m.lives := Mem.mem_lives.2 ⟨_, List.mem_of_getElem? hj, rfl, o, ho⟩
      rw [hfr.keep s.b (hw'.1.lt hl) (not_ow hw'.1 hp hj hs' hm)]
      exact hw'.1.own s (List.mem_of_getElem? hj) o ho
  refine ⟨rfl, ⟨fun b x hx => hw''.sub b x (hfr.le b x hx), fun s hs x hx => ?_, hw'.1.inj, hw'.1.apart⟩, hw'.2.trans ⟨hfr.os, hfr.tape, hfr.output, hfr.size, .refl _, fun b hb hm => hfr.keep b hb fun h => hm (pick_lives hp b h), fun _ _ _ => rfl, fun _ _ h => h⟩⟩
  obtain ⟨j, hj⟩ := List.mem_iff_getElem?.1 hs
  exact hall hj hx

/-- Slot k, from now on, is known for good. -/
theorem OOK.freeze {K : Env → Mem → GH → Prop} (k : Nat) {s : Slot} (hk : m[k]? = some s) {ob : Obj} (hs : s.o.ob = some ob) (h : ∀ g', g.le g' → g' s.b = some ob → OOK P n o e (m.set k ⟨s.b, .dead⟩) g' K) : OOK P n o e m g K := by
  refine ⟨fun a w ha hw next Q hn hX => ?_⟩
  have h1 := hw.freeze hk hs
  have h2 := Fr.freeze hw hk hs
  exact (h _ h2.le (by simp)).ok a w (ha.ext (Mem.ext_set hk rfl)) h1 next Q (fun a' w' e' m' g' k1 k2 k3 k4 => hn a' w' e' m' g' k1 k2 (h2.trans k3) k4) fun ch a' w' g' k1 k2 k3 k4 => hX ch a' w' g' k1 k2 (h2.trans k3) k4
theorem COK.freeze {c : Code} {K : KK} (k : Nat) {s : Slot} (hk : m[k]? = some s) {ob : Obj} (hs : s.o.ob = some ob) (h : ∀ g', g.le g' → g' s.b = some ob → COK P n c e (m.set k ⟨s.b, .dead⟩) g' K) : COK P n c e m g K := by
  refine ⟨fun a w ha hw => ?_⟩
  have h1 := hw.freeze hk hs
  have h2 := Fr.freeze hw hk hs
  exact wp_mono ((h _ h2.le (by simp)).ok a w (ha.ext (Mem.ext_set hk rfl)) h1) fun _ _ _ hp => post_trans h2 hp
/-- Less is owned from now on. -/
theorem OOK.drop {K : Env → Mem → GH → Prop} {M : Mem} {E : Env} {is : List Nat} (s : Sub e m E M is) (h : OOK P n o E M g K) : OOK P n o e m g K :=
  ⟨fun a w ha hw next Q hn hX => h.ok a w (ha.sub s) (hw.sub_ s) next Q (fun a' w' e' m' g' k1 k2 k3 k4 => hn a' w' e' m' g' k1 k2 ((Fr.sub s).trans k3) k4) fun ch a' w' g' k1 k2 k3 k4 => hX ch a' w' g' k1 k2 ((Fr.sub s).trans k3) k4⟩

/-! ### a store through a plain pointer into a slot of one's own -/
theorem OOK.storeVal {K : Env → Mem → GH → Prop} {t : TypeId} {x y : Operand} (i : Nat) {b q : Nat} {v : Value} {c : List Value} {t' : TypeId} {inf : TypeInfo} (hop : o.op = .store t x y) (hx : e.va m x = some (.pointer (some ⟨b, q, none⟩)))
    (hy : e.va m y = some v) (hm : m[i]? = some ⟨b, .cells c t' (0, 0)⟩) (hi : P.info? t = some inf) (hsz : v.cells.toList.length = inf.size) (h1 : allOne v.cells.toList = true) (hq : q + v.cells.toList.length ≤ c.length)
    (h : putK n o.dst (.val undef) e fun e => K e (m.set i ⟨b, .cells (c.take q ++ v.cells.toList ++ c.drop (q + v.cells.toList.length)) t' (0, 0)⟩) g) : OOK P n o e m g K := by
  refine OOK.skipU fun a w ha hw => ?_
  have hb := hw.own _ (List.mem_of_getElem? hm) _ rfl
  rw [show (Slot.mk b (.cells c t' (0, 0))).b = b from rfl] at hb
  have hst := run_storeCells_at (P := P) b q t' v.cells.toList 0 c.toArray w hb (by simpa using hq) (allOne_ok h1)
  have hst' : (storeCells ⟨b, q, none⟩ v.cells.toList).run P w = .ok () (w.setRow b (c.take q ++ v.cells.toList ++ c.drop (q + v.cells.toList.length)).toArray) := by
    rw [hst]; simp
  revert h hst'
  generalize c.take q ++ v.cells.toList ++ c.drop (q + v.cells.toList.length) = C
  intro h hst'
  refine ⟨w.setRow b C.toArray, m.set i ⟨b, .cells C t' (0, 0)⟩, ?_, ?_, Mem.ext_set hm rfl, ?_, h⟩
  · simp [execOp, hop, ha.va hx, ha.va hy, Instr.storeAt, Instr.sureAddr, storeVar, run_size hi, hst']
    simpa using hsz
  · refine hw.write hm rfl (.cells C t' (0, 0)) _ rfl (setRow_heap w b _ _ t' (0, 0) hb) fun x hx => ?_
    simp only [World.setRow, Array.getElem?_modify]
    rw [if_neg (by simpa using fun h => hx h.symm)]
  · refine Fr.write hm rfl (.cells C t' (0, 0)) (fun x hx => ?_) ?_ rfl rfl rfl
    · simp only [World.setRow, Array.getElem?_modify]
      rw [if_neg (by simpa using fun h => hx h.symm)]
    · simp [World.setRow]
end
end Go.SX
