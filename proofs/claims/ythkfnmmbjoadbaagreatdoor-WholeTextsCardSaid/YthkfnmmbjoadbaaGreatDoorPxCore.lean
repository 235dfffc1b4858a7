/- SX: a symbolic walk over the model's code: a ghost heap that never changes, a list of blocks that the walk owns, temporaries as a list. Part 1: the state and the rules for code. -/
import Derived.WalkKit
set_option linter.unusedVariables false
set_option linter.unusedSimpArgs false
namespace Go.SX

/-- What is known for good: blocks that nobody will write again. -/
abbrev GH := Nat → Option Obj
def GH.le (g g' : GH) : Prop := ∀ b o, g b = some o → g' b = some o
theorem GH.le.refl (g : GH) : g.le g := fun _ _ h => h
theorem GH.le.trans {g g' g'' : GH} (h : g.le g') (k : g'.le g'') : g.le g'' := fun b o e => k b o (h b o e)

inductive SO where
  | dead
  | cells (c : List Value) (t : TypeId) (fr : Nat × Nat)
  | obj (o : Obj)
def SO.ob : SO → Option Obj
  | .dead => none
  | .cells c t fr => some (.cells c.toArray t fr)
  | .obj o => some o
structure Slot where
  b : Nat
  o : SO
abbrev Mem := List Slot
def Slot.live (s : Slot) : Bool := s.o.ob.isSome
def Mem.lives (m : Mem) : List Nat := (m.filter Slot.live).map Slot.b

structure Has (w : World) (g : GH) (m : Mem) : Prop where
  sub : ∀ b o, g b = some o → w.heap[b]? = some o
  own : ∀ s ∈ m, ∀ o, s.o.ob = some o → w.heap[s.b]? = some o
  inj : ∀ (i j : Nat) (s t : Slot), m[i]? = some s → m[j]? = some t → s.live = true → t.live = true → s.b = t.b → i = j
  apart : ∀ b ∈ m.lives, g b = none

theorem Mem.mem_lives {m : Mem} {b : Nat} : b ∈ m.lives ↔ ∃ s ∈ m, s.b = b ∧ ∃ o, s.o.ob = some o := by
  simp only [Mem.lives, List.mem_map, List.mem_filter, Slot.live, Option.isSome_iff_exists]
  constructor
  · rintro ⟨s, ⟨h1, h2⟩, h3⟩; exact ⟨s, h1, h3, h2⟩
  · rintro ⟨s, h1, h2, h3⟩; exact ⟨s, ⟨h1, h3⟩, h2⟩
theorem Mem.lives_append (m m' : Mem) : Mem.lives (m ++ m') = m.lives ++ m'.lives := by simp [Mem.lives]

theorem Has.lt {w : World} {g : GH} {m : Mem} (h : Has w g m) {b : Nat} (hb : b ∈ m.lives) : b < w.heap.size := by
  obtain ⟨s, hs, rfl, o, ho⟩ := Mem.mem_lives.1 hb
  exact (Array.getElem?_eq_some_iff.1 (h.own s hs o ho)).1

/-- What a stretch of the run may have done. -/
structure Fr (w : World) (m : Mem) (g : GH) (w' : World) (m' : Mem) (g' : GH) : Prop where
  os : w'.os = w.os
  tape : w'.tape = w.tape
  output : w'.output = w.output
  size : w.heap.size ≤ w'.heap.size
  le : g.le g'
  keep : ∀ b, b < w.heap.size → b ∉ m.lives → w'.heap[b]? = w.heap[b]?
  gnew : ∀ b, b < w.heap.size → b ∉ m.lives → g' b = g b
  mnew : ∀ b, b < w.heap.size → b ∉ m.lives → b ∉ m'.lives
theorem Fr.refl (w : World) (m : Mem) (g : GH) : Fr w m g w m g :=
  ⟨rfl, rfl, rfl, Nat.le_refl _, .refl _, fun _ _ _ => rfl, fun _ _ _ => rfl, fun _ _ h => h⟩
theorem Fr.trans {w m g w1 m1 g1 w2 m2 g2} (h : Fr w m g w1 m1 g1) (k : Fr w1 m1 g1 w2 m2 g2) : Fr w m g w2 m2 g2 where
  os := k.os.trans h.os
  tape := k.tape.trans h.tape
  output := k.output.trans h.output
  size := Nat.le_trans h.size k.size
  le := h.le.trans k.le
  keep b hb hm := (k.keep b (Nat.lt_of_lt_of_le hb h.size) (h.mnew b hb hm)).trans (h.keep b hb hm)
  gnew b hb hm := (k.gnew b (Nat.lt_of_lt_of_le hb h.size) (h.mnew b hb hm)).trans (h.gnew b hb hm)
  mnew b hb hm := k.mnew b (Nat.lt_of_lt_of_le hb h.size) (h.mnew b hb hm)

/-- Slots stay where they are, only what they hold may turn. -/
def Mem.ext (m m' : Mem) : Prop := ∀ (k : Nat) (s : Slot), m[k]? = some s → ∃ s', m'[k]? = some s' ∧ s'.b = s.b
theorem Mem.ext.refl (m : Mem) : m.ext m := fun _ s h => ⟨s, h, rfl⟩
theorem Mem.ext.trans {m m' m'' : Mem} (h : m.ext m') (k : m'.ext m'') : m.ext m'' := fun i s e => by
  obtain ⟨s', h1, h2⟩ := h i s e
  obtain ⟨s'', h3, h4⟩ := k i s' h1
  exact ⟨s'', h3, h4.trans h2⟩
theorem Mem.ext_append (m r : Mem) : m.ext (m ++ r) := fun i s h => ⟨s, by
  rw [List.getElem?_append_left (List.getElem?_eq_some_iff.1 h).1]; exact h, rfl⟩
theorem Mem.ext_set {m : Mem} {k : Nat} {s s' : Slot} (h : m[k]? = some s) (hb : s'.b = s.b) : m.ext (m.set k s') := fun i t hi => by
  by_cases e : k = i
  · subst e
    have : s = t := Option.some.inj (h.symm.trans hi)
    subst this
    exact ⟨s', by rw [List.getElem?_set_self (List.getElem?_eq_some_iff.1 h).1], hb⟩
  · exact ⟨t, by rw [List.getElem?_set_ne e]; exact hi, rfl⟩

/-- A temporary's value: a value, a pointer into a slot of one's own, a bool that is decided. -/
inductive SV where
  | val (v : Value)
  | own (k off : Nat)
  | tt
  | ff
def SV.den (m : Mem) : SV → Option Value
  | .val v => some v
  | .own k off => (m[k]?).map fun s => .pointer (some ⟨s.b, off, none⟩)
  | .tt => some (.bool true)
  | .ff => some (.bool false)
theorem SV.den_ext {m m' : Mem} (h : m.ext m') {x : SV} {v : Value} (hx : x.den m = some v) : x.den m' = some v := by
  cases x with
  | own k off =>
    simp only [SV.den, Option.map_eq_some_iff] at hx ⊢
    obtain ⟨s, h1, rfl⟩ := hx
    obtain ⟨s', h2, h3⟩ := h k s h1
    exact ⟨s', h2, by rw [h3]⟩
  | _ => exact hx

abbrev Env := List (Nat × SV)
def Env.get : Env → Nat → Option SV
  | [], _ => none
  | (k, v) :: r, t => match Nat.beq k t with
    | true => some v
    | false => Env.get r t
def Env.put (e : Env) (d : Option Nat) (v : SV) : Env :=
  match d with
  | none => e
  | some d => (d, v) :: e

/-- What a frame brings: how many temporaries; which calls it has put off; with which panics it may end. -/
structure Cfg where
  n : Nat
  ds : List Deferred := []
  X : List PanicEntry → Prop := fun _ => False
structure Agr (a : Act) (n : Cfg) (e : Env) (m : Mem) : Prop where
  defers : a.defers = n.ds
  size : a.tmps.size = n.n
  at_ : ∀ t x, e.get t = some x → ∃ v, x.den m = some v ∧ a.tmps[t]? = some v
theorem Agr.ext {a : Act} {n : Cfg} {e : Env} {m m' : Mem} (h : Agr a n e m) (k : m.ext m') : Agr a n e m' :=
  ⟨h.defers, h.size, fun t x hx => let ⟨v, h1, h2⟩ := h.at_ t x hx; ⟨v, SV.den_ext k h1, h2⟩⟩
theorem Env.get_cons (k : Nat) (v : SV) (r : Env) (t : Nat) : Env.get ((k, v) :: r) t = if k = t then some v else r.get t := by
  by_cases h : k = t
  · subst h; simp [Env.get]
  · have : Nat.beq k t = false := by rw [← Bool.not_eq_true]; intro e; exact h (Nat.eq_of_beq_eq_true e)
    simp [Env.get, this, h]
/-- A temporary out of range is never written: then only the others count. -/
theorem Agr.put {a : Act} {n : Cfg} {e : Env} {m : Mem} (h : Agr a n e m) (d : Option Nat) (hd : ∀ t, d = some t → t < n.n) {x : SV} {v : Value} (hx : x.den m = some v) :
    Agr (a.put d v) n (e.put d x) m := by
  cases d with
  | none => exact h
  | some d =>
    refine ⟨h.defers, by simp [Act.put, h.size], fun t y hy => ?_⟩
    simp only [Env.put, Env.get_cons] at hy
    by_cases e' : d = t
    · subst e'
      simp only [if_true, Option.some.injEq] at hy
      subst hy
      exact ⟨v, hx, by simp [Act.put, Array.getElem?_setIfInBounds_self_of_lt, h.size, hd d rfl]⟩
    · simp only [e', if_false] at hy
      obtain ⟨u, h1, h2⟩ := h.at_ t y hy
      exact ⟨u, h1, by simp [Act.put, Array.getElem?_setIfInBounds_ne e', h2]⟩
theorem Agr.put_other {a : Act} {n : Cfg} {e : Env} {m : Mem} (h : Agr a n e m) (d : Option Nat) (v : Value) (hd : ∀ t, d = some t → e.get t = none) :
    Agr (a.put d v) n e m := by
  cases d with
  | none => exact h
  | some d =>
    refine ⟨h.defers, by simp [Act.put, h.size], fun t y hy => ?_⟩
    by_cases e' : d = t
    · subst e'; rw [hd d rfl] at hy; cases hy
    · obtain ⟨u, h1, h2⟩ := h.at_ t y hy
      exact ⟨u, h1, by simp [Act.put, Array.getElem?_setIfInBounds_ne e', h2]⟩

def Env.op (e : Env) : Operand → Option SV
  | .tmp t => e.get t
  | .const (.bool true) => some .tt
  | .const (.bool false) => some .ff
  | .const v => some (.val v)
  | .global g => some (.val (.pointer (some ⟨g, 0, none⟩)))
  | .func f => some (.val (.func (.func f) #[] #[]))
def Env.va (e : Env) (m : Mem) (x : Operand) : Option Value := (e.op x).bind (SV.den m)
theorem Agr.op {a : Act} {n : Cfg} {e : Env} {m : Mem} (h : Agr a n e m) {x : Operand} {s : SV} (hx : e.op x = some s) : s.den m = some (a.eval x) := by
  cases x with
  | tmp t =>
    obtain ⟨v, h1, h2⟩ := h.at_ t s hx
    rw [h1]; simp [Act.eval, h2]
  | const v =>
    cases v with
    | bool b => cases b <;> (simp only [Env.op, Option.some.injEq] at hx; subst hx; rfl)
    | _ => simp only [Env.op, Option.some.injEq] at hx; subst hx; rfl
  | global g => simp only [Env.op, Option.some.injEq] at hx; subst hx; rfl
  | func f => simp only [Env.op, Option.some.injEq] at hx; subst hx; rfl
theorem Agr.va {a : Act} {n : Cfg} {e : Env} {m : Mem} (h : Agr a n e m) {x : Operand} {v : Value} (hx : e.va m x = some v) : a.eval x = v := by
  unfold Env.va at hx
  cases hs : e.op x with
  | none => rw [hs] at hx; cases hx
  | some s =>
    rw [hs] at hx
    have := h.op hs
    exact Option.some.inj (this.symm.trans hx)

/-! ### the rules for code -/
abbrev KK := Exit → Env → Mem → GH → Prop
def KX (n : Cfg) (K : KK) : KK := fun x e m g => K x e m g ∨ ∃ ch, x = .panic ch ∧ n.X ch
def post (n : Cfg) (w : World) (m : Mem) (g : GH) (K : KK) : Exit → Act → World → Prop := fun x a' w' =>
  ∃ e' m' g', Agr a' n e' m' ∧ Has w' g' m' ∧ Fr w m g w' m' g' ∧ KX n K x e' m' g'
structure COK (P : Program) (n : Cfg) (c : Code) (e : Env) (m : Mem) (g : GH) (K : KK) : Prop where
  ok : ∀ a w, Agr a n e m → Has w g m → c.wp P (post n w m g K) a w
structure OOK (P : Program) (n : Cfg) (o : Oper) (e : Env) (m : Mem) (g : GH) (K : Env → Mem → GH → Prop) : Prop where
  ok : ∀ a w, Agr a n e m → Has w g m → ∀ (next : Act → World → Prop) (Q : Exit → Act → World → Prop),
    (∀ a' w' e' m' g', Agr a' n e' m' → Has w' g' m' → Fr w m g w' m' g' → K e' m' g' → next a' w') →
    (∀ ch a' w' g', Agr a' n [] [] → Has w' g' [] → Fr w m g w' [] g' → n.X ch → Q (.panic ch) a' w') → o.wp P a w next Q

theorem COK.mono {P n c e m g} {K K' : KK} (h : COK P n c e m g K) (hk : ∀ x e m g, K x e m g → K' x e m g) : COK P n c e m g K' :=
  ⟨fun a w ha hw => wp_mono (h.ok a w ha hw) fun x a' w' ⟨e', m', g', h1, h2, h3, h4⟩ => ⟨e', m', g', h1, h2, h3, h4.imp (hk _ _ _ _) id⟩⟩
theorem COK.skip {P n e m g} {K : KK} (h : K .normal e m g) : COK P n .skip e m g K :=
  ⟨fun a w ha hw => wp_skip ⟨e, m, g, ha, hw, .refl _ _ _, .inl h⟩⟩
theorem COK.ret {P n e m g} {K : KK} (h : K .ret e m g) : COK P n .ret e m g K :=
  ⟨fun a w ha hw => wp_ret ⟨e, m, g, ha, hw, .refl _ _ _, .inl h⟩⟩
theorem COK.exit {P n i e m g} {K : KK} (h : K (.exit i) e m g) : COK P n (.exit i) e m g K :=
  ⟨fun a w ha hw => wp_exit ⟨e, m, g, ha, hw, .refl _ _ _, .inl h⟩⟩
def thenK (next : Env → Mem → GH → Prop) (K : KK) : KK
  | .normal, e, m, g => next e m g
  | x, e, m, g => K x e m g
theorem post_trans {n w m g w1 m1 g1} {K : KK} (hf : Fr w m g w1 m1 g1) {x a' w'} (h : post n w1 m1 g1 K x a' w') : post n w m g K x a' w' := by
  obtain ⟨e', m', g', h1, h2, h3, h4⟩ := h
  exact ⟨e', m', g', h1, h2, hf.trans h3, h4⟩
theorem COK.seq {P n x y e m g} {K : KK} (h : COK P n x e m g (thenK (fun e m g => COK P n y e m g K) K)) : COK P n (.seq x y) e m g K := by
  refine ⟨fun a w ha hw => wp_seq (wp_mono (h.ok a w ha hw) ?_)⟩
  rintro ex a' w' ⟨e', m', g', h1, h2, h3, h4⟩
  cases ex with
  | normal =>
    rcases h4 with h4 | ⟨_, h4, _⟩
    · exact wp_mono (h4.ok a' w' h1 h2) fun _ _ _ hp => post_trans h3 hp
    · cases h4
  | _ => exact ⟨e', m', g', h1, h2, h3, h4⟩
theorem COK.cond {P n c x y e m g} {K : KK} {b : Bool} (hc : e.va m c = some (.bool b)) (ht : b = true → COK P n x e m g K) (hf : b = false → COK P n y e m g K) :
    COK P n (.cond c x y) e m g K := by
  refine ⟨fun a w ha hw => wp_cond_split (ha.va hc) (fun h => (ht h).ok a w ha hw) (fun h => (hf h).ok a w ha hw)⟩
def blockK (i : Nat) (K : KK) : KK
  | .exit j, e, m, g => match Nat.beq j i with
    | true => K .normal e m g
    | false => K (.exit j) e m g
  | x, e, m, g => K x e m g
theorem COK.block {P n i c e m g} {K : KK} (h : COK P n c e m g (blockK i K)) : COK P n (.block i c) e m g K := by
  refine ⟨fun a w ha hw => wp_block (wp_mono (h.ok a w ha hw) ?_)⟩
  rintro ex a' w' ⟨e', m', g', h1, h2, h3, h4⟩
  cases ex with
  | exit j =>
    simp only [Exit.inBlock]
    rcases h4 with h4 | ⟨_, h4, _⟩
    rotate_left
    · cases h4
    simp only [blockK] at h4
    split
    · rename_i hj; subst hj; rw [Nat.beq_refl] at h4; exact ⟨e', m', g', h1, h2, h3, .inl h4⟩
    · rename_i hj
      have : Nat.beq j i = false := by rw [← Bool.not_eq_true]; intro hc; exact hj (Nat.eq_of_beq_eq_true hc)
      rw [this] at h4; exact ⟨e', m', g', h1, h2, h3, .inl h4⟩
  | _ => exact ⟨e', m', g', h1, h2, h3, h4⟩

/-- What an environment and a memory say less. 'is' are the slots that are kept, in their new order. -/
structure Sub (e : Env) (m : Mem) (E : Env) (M : Mem) (is : List Nat) : Prop where
  nodup : is.Nodup
  pick : is.map (fun i => m[i]?) = M.map some
  env : ∀ t x, E.get t = some x → ∃ v, x.den M = some v ∧ (e.get t).bind (SV.den m) = some v
theorem Agr.sub {a n e m E M is} (h : Agr a n e m) (s : Sub e m E M is) : Agr a n E M :=
  ⟨h.defers, h.size, fun t x hx => by
    obtain ⟨v, h1, h2⟩ := s.env t x hx
    refine ⟨v, h1, ?_⟩
    cases he : e.get t with
    | none => rw [he] at h2; cases h2
    | some y =>
      rw [he] at h2
      obtain ⟨u, h3, h4⟩ := h.at_ t y he
      have : u = v := Option.some.inj (h3.symm.trans h2)
      rw [h4, this]⟩
theorem pick_lives {m M : Mem} : ∀ {is : List Nat}, is.map (fun i => m[i]?) = M.map some → ∀ b ∈ M.lives, b ∈ m.lives := by
  intro is h b hb
  obtain ⟨s, hs, rfl, o, ho⟩ := Mem.mem_lives.1 hb
  have : some s ∈ is.map (fun i => m[i]?) := by rw [h]; exact List.mem_map_of_mem hs
  obtain ⟨i, _, hi⟩ := List.mem_map.1 this
  exact Mem.mem_lives.2 ⟨s, List.mem_of_getElem? hi, rfl, o, ho⟩
theorem pick_mem {m M : Mem} {is : List Nat} (h : is.map (fun i => m[i]?) = M.map some) {s : Slot} (hs : s ∈ M) : ∃ i ∈ is, m[i]? = some s := by
  have : some s ∈ is.map (fun i => m[i]?) := by rw [h]; exact List.mem_map_of_mem hs
  exact List.mem_map.1 this
theorem pick_at {m M : Mem} {is : List Nat} (h : is.map (fun i => m[i]?) = M.map some) {i : Nat} {s : Slot} (hi : M[i]? = some s) : ∃ k, is[i]? = some k ∧ m[k]? = some s := by
  have h1 : (is.map (fun i => m[i]?))[i]? = some (some s) := by rw [h]; simp [hi]
  simp only [List.getElem?_map, Option.map_eq_some_iff] at h1
  obtain ⟨k, hk, hm⟩ := h1
  exact ⟨k, hk, hm⟩
theorem nodup_idx {is : List Nat} (h : is.Nodup) {i j k : Nat} (hi : is[i]? = some k) (hj : is[j]? = some k) : i = j := by
  obtain ⟨hi1, hi2⟩ := List.getElem?_eq_some_iff.1 hi
  obtain ⟨hj1, hj2⟩ := List.getElem?_eq_some_iff.1 hj
  have hp := List.pairwise_iff_getElem.1 h
  rcases Nat.lt_trichotomy i j with hlt | he | hlt
  · exact absurd (hi2.trans hj2.symm) (hp i j hi1 hj1 hlt)
  · exact he
  · exact absurd (hj2.trans hi2.symm) (hp j i hj1 hi1 hlt)
theorem Has.sub_ {w g m E M is e} (h : Has w g m) (s : Sub e m E M is) : Has w g M where
  sub := h.sub
  own := fun x hx o ho => by
    obtain ⟨i, _, hi⟩ := pick_mem s.pick hx
    exact h.own x (List.mem_of_getElem? hi) o ho
  inj := fun i j x y hi hj hx hy hb => by
    obtain ⟨k, hk1, hk2⟩ := pick_at s.pick hi
    obtain ⟨l, hl1, hl2⟩ := pick_at s.pick hj
    have := h.inj k l x y hk2 hl2 hx hy hb
    subst this
    exact nodup_idx s.nodup hk1 hl1
  apart := fun b hb => h.apart b (pick_lives s.pick b hb)
theorem Fr.sub {w g m M is e E} (s : Sub e m E M is) : Fr w m g w M g :=
  ⟨rfl, rfl, rfl, Nat.le_refl _, .refl _, fun _ _ _ => rfl, fun _ _ _ => rfl, fun b _ hb hm => hb (pick_lives s.pick b hm)⟩
/-- Weaken what is known, then go on. -/
theorem COK.weaken {P n c e m g} {K : KK} {E M is} (s : Sub e m E M is) (h : COK P n c E M g K) : COK P n c e m g K :=
  ⟨fun a w ha hw => wp_mono (h.ok a w (ha.sub s) (hw.sub_ s)) fun _ _ _ hp => post_trans (Fr.sub s) hp⟩

/-- A loop: α is what a round's head varies in. -/
theorem COK.loop {P n c e m g} {K : KK} {α : Type} (E : α → Env) (M : α → Mem) (I : α → GH → Prop) (μ : α → Nat) (x0 : α) (is0 : List Nat)
    (s0 : Sub e m (E x0) (M x0) is0) (h0 : I x0 g)
    (round : ∀ x g', g.le g' → I x g' → COK P n c (E x) (M x) g' (thenK (fun e' m' g'' => ∃ x' is, Sub e' m' (E x') (M x') is ∧ I x' g'' ∧ μ x' < μ x) K)) :
    COK P n (.loop c) e m g K := by
  refine COK.weaken s0 ⟨fun a w ha hw => ?_⟩
  have hJ : (fun a' w' => ∃ x g', Agr a' n (E x) (M x) ∧ Has w' g' (M x) ∧ Fr w (M x0) g w' (M x) g' ∧ I x g') a w := ⟨x0, g, ha, hw, .refl _ _ _, h0⟩
  -- the measure is of the ghost; strong induction over it
  intro b k cs
  have key : ∀ N x g' a w1, μ x = N → Agr a n (E x) (M x) → Has w1 g' (M x) → Fr w (M x0) g w1 (M x) g' → I x g' →
      ∃ ex a' w', post n w (M x0) g K ex a' w' ∧ Arrives P (lone (b.at a (.code c :: .inLoop c :: k)) cs w1) b k cs ex a' w' := by
    intro N
    induction N using Nat.strongRecOn with
    | _ N ih =>
      intro x g' a w1 hN h1 h2 h3 h4
      obtain ⟨ex, a1, w2, hp, harr⟩ := (round x g' h3.le h4).ok a w1 h1 h2 b (.inLoop c :: k) cs
      obtain ⟨e', m', g'', k1, k2, k3, k4⟩ := hp
      cases ex with
      | normal =>
        rcases k4 with k4 | ⟨_, k4, _⟩
        rotate_left
        · cases k4
        obtain ⟨x', is, s, hI, hlt⟩ := k4
        obtain ⟨ex2, a3, w3, hq3, harr3⟩ := ih (μ x') (hN ▸ hlt) x' g'' a1 w2 rfl (k1.sub s) (k2.sub_ s) ((h3.trans k3).trans (Fr.sub s)) hI
        exact ⟨ex2, a3, w3, hq3, .of_steps (Steps.trans harr (.one step_inLoop)) harr3⟩
      | exit id => exact ⟨_, a1, w2, ⟨e', m', g'', k1, k2, h3.trans k3, k4⟩, .pass (x := .inLoop c) rfl (fun _ _ => .inl (by simp)) harr⟩
      | goto l => exact ⟨_, a1, w2, ⟨e', m', g'', k1, k2, h3.trans k3, k4⟩, .pass (x := .inLoop c) rfl (fun _ _ => .inl (by simp)) harr⟩
      | ret => exact ⟨_, a1, w2, ⟨e', m', g'', k1, k2, h3.trans k3, k4⟩, .pass (x := .inLoop c) rfl (fun _ _ => .inl (by simp)) harr⟩
      | panic ch => exact ⟨_, a1, w2, ⟨e', m', g'', k1, k2, h3.trans k3, k4⟩, .pass (x := .inLoop c) rfl (fun _ _ => .inl (by simp)) harr⟩
      | outgrown => exact ⟨_, a1, w2, ⟨e', m', g'', k1, k2, h3.trans k3, k4⟩, .pass (x := .inLoop c) rfl (fun _ _ => .inl (by simp)) harr⟩
  obtain ⟨x, g', h1, h2, h3, h4⟩ := hJ
  obtain ⟨ex, a', w', hq, harr⟩ := key _ x g' a w rfl h1 h2 h3 h4
  exact ⟨ex, a', w', hq, .of_steps (.one step_loop) harr⟩

/-- A cut: what follows is shown once, from what R says. -/
theorem COK.cut {P n c e m g} {K : KK} {α : Type} (E : α → Env) (M : α → Mem) (I : α → GH → Prop)
    (h : COK P n c e m g (thenK (fun e' m' g' => ∃ x is, Sub e' m' (E x) (M x) is ∧ I x g') K))
    (k : ∀ x g', g.le g' → I x g' → K .normal (E x) (M x) g') : COK P n c e m g K := by
  refine ⟨fun a w ha hw => wp_mono (h.ok a w ha hw) ?_⟩
  rintro ex a' w' ⟨e', m', g', h1, h2, h3, h4⟩
  cases ex with
  | normal =>
    rcases h4 with h4 | ⟨_, h4, _⟩
    rotate_left
    · cases h4
    obtain ⟨x, is, s, hI⟩ := h4
    exact ⟨E x, M x, g', h1.sub s, h2.sub_ s, h3.trans (Fr.sub s), .inl (k x g' h3.le hI)⟩
  | _ => exact ⟨e', m', g', h1, h2, h3, h4⟩

/-! ### operations in the text's order -/
def OLs (P : Program) (n : Cfg) (ops : Array Oper) (l : List Oper) (e : Env) (m : Mem) (g : GH) (K : Env → Mem → GH → Prop) : Prop :=
  ∀ a w, Agr a n e m → Has w g m → ∀ (Q : Exit → Act → World → Prop),
    (∀ a' w' e' m' g', Agr a' n e' m' → Has w' g' m' → Fr w m g w' m' g' → K e' m' g' → Q .normal a' w') →
    (∀ ch a' w' g', Agr a' n [] [] → Has w' g' [] → Fr w m g w' [] g' → n.X ch → Q (.panic ch) a' w') → wpList P ops Q l a w
theorem OLs.nil {P n ops e m g} {K : Env → Mem → GH → Prop} (h : K e m g) : OLs P n ops [] e m g K :=
  fun a w ha hw Q hQ _ => hQ a w e m g ha hw (.refl _ _ _) h
theorem OLs.cons {P n ops o r e m g} {K : Env → Mem → GH → Prop} (hg : o.guard = none) (h : OOK P n o e m g (fun e' m' g' => OLs P n ops r e' m' g' K)) : OLs P n ops (o :: r) e m g K :=
  fun a w ha hw Q hQ hX => by
    unfold wpList
    rw [if_pos (by simp [Region.wanted, hg])]
    exact .inl (h.ok a w ha hw _ _ (fun a' w' e' m' g' h1 h2 h3 h4 => h4 a' w' h1 h2 Q (fun a2 w2 e2 m2 g2 k1 k2 k3 k4 => hQ a2 w2 e2 m2 g2 k1 k2 (h3.trans k3) k4) fun ch a2 w2 g2 k1 k2 k3 k4 => hX ch a2 w2 g2 k1 k2 (h3.trans k3) k4) hX)
theorem yielded_of {a : Act} {n : Cfg} {e : Env} {m : Mem} (h : Agr a n e m) {ops : Array Oper} {j t : Nat} (hj : (ops[j]?).bind (·.dst) = some t) {x : SV} (hx : e.get t = some x) {b : Bool} (hd : x.den m = some (.bool b)) :
    yielded ops a.tmps j = some b := by
  obtain ⟨v, h1, h2⟩ := h.at_ t x hx
  have : v = .bool b := Option.some.inj (h1.symm.trans hd)
  subst this
  simp [yielded, hj, h2]
theorem OLs.guarded {P n ops o r e m g} {K : Env → Mem → GH → Prop} {j t : Nat} {want : Bool} (hg : o.guard = some (j, want)) (hj : (ops[j]?).bind (·.dst) = some t) {x : SV} (hx : e.get t = some x) {b : Bool}
    (hd : x.den m = some (.bool b))
    (hy : b = want → OOK P n o e m g (fun e' m' g' => OLs P n ops r e' m' g' K)) (hn : b ≠ want → (∀ d, o.dst = some d → e.get d = none) ∧ OLs P n ops r e m g K) : OLs P n ops (o :: r) e m g K :=
  fun a w ha hw Q hQ hX => by
    have hyl := yielded_of ha hj hx hd
    unfold wpList
    by_cases hb : b = want
    · rw [if_pos (by simp [Region.wanted, hg, hyl, hb])]
      exact .inl ((hy hb).ok a w ha hw _ _ (fun a' w' e' m' g' h1 h2 h3 h4 => h4 a' w' h1 h2 Q (fun a2 w2 e2 m2 g2 k1 k2 k3 k4 => hQ a2 w2 e2 m2 g2 k1 k2 (h3.trans k3) k4) fun ch a2 w2 g2 k1 k2 k3 k4 => hX ch a2 w2 g2 k1 k2 (h3.trans k3) k4) hX)
    · rw [if_neg (by simp [Region.wanted, hg, hyl, hb])]
      obtain ⟨h1, h2⟩ := hn hb
      exact h2 _ w (ha.put_other o.dst undef h1) hw Q hQ hX
theorem COK.region {P n i ops e m g} {K : KK} (h : OLs P n ops ops.toList e m g (K .normal)) : COK P n (.region i ops false) e m g K :=
  ⟨fun a w ha hw => wp_region_list (h a w ha hw _ (fun a' w' e' m' g' h1 h2 h3 h4 => ⟨e', m', g', h1, h2, h3, .inl h4⟩) fun ch a' w' g' h1 h2 h3 h4 => ⟨[], [], g', h1, h2, h3, .inr ⟨ch, rfl, h4⟩⟩)⟩

/-! ### functions -/
/-- A call's contract: what it is handed (slots 'ow') comes back at the head of what it hands back, block by block. -/
def TriE (P : Program) (f : FuncId) (args : List Value) (g : GH) (ow : Mem) (X : List PanicEntry → Prop) (R : Value → GH → Mem → Prop) : Prop :=
  ∀ w, Has w g ow → Calls P f args.toArray w fun e w' => (∃ v g' m', e = .returned v ∧ R v g' m' ∧ ow.ext m' ∧ Has w' g' m' ∧ Fr w ow g w' m' g') ∨ ∃ ch g', e = .panicked ch ∧ X ch ∧ Has w' g' [] ∧ Fr w ow g w' [] g'
def Tri (P : Program) (f : FuncId) (args : List Value) (g : GH) (ow : Mem) (R : Value → GH → Mem → Prop) : Prop :=
  ∀ w, Has w g ow → Calls P f args.toArray w fun e w' => ∃ v g' m', e = .returned v ∧ R v g' m' ∧ ow.ext m' ∧ Has w' g' m' ∧ Fr w ow g w' m' g'
theorem Tri.toE {P f args g ow X} {R : Value → GH → Mem → Prop} (h : Tri P f args g ow R) : TriE P f args g ow X R :=
  fun w hw => (h w hw).mono fun e w' h => .inl h
theorem TriE.mono {P f args g ow} {X X' : List PanicEntry → Prop} {R R' : Value → GH → Mem → Prop} (h : TriE P f args g ow X R) (hx : ∀ ch, X ch → X' ch) (hr : ∀ v g' m', g.le g' → R v g' m' → R' v g' m') : TriE P f args g ow X' R' :=
  fun w hw => (h w hw).mono fun e w' hh => by
    rcases hh with ⟨v, g', m', h1, h2, h3, h4, h5⟩ | ⟨ch, g', h1, h2, h3, h4⟩
    · exact .inl ⟨v, g', m', h1, hr _ _ _ h5.le h2, h3, h4, h5⟩
    · exact .inr ⟨ch, g', h1, hx _ h2, h3, h4⟩
theorem TriE.tri {P f args g ow} {X : List PanicEntry → Prop} {R : Value → GH → Mem → Prop} (h : TriE P f args g ow X R) (hx : ∀ ch, ¬ X ch) : Tri P f args g ow R :=
  fun w hw => (h w hw).mono fun e w' hh => by
    rcases hh with h | ⟨ch, g', h1, h2, h3, h4⟩
    · exact h
    · exact absurd h2 (hx ch)
theorem Tri.mono {P f args g ow} {R R' : Value → GH → Mem → Prop} (h : Tri P f args g ow R) (hr : ∀ v g' m', g.le g' → R v g' m' → R' v g' m') : Tri P f args g ow R' :=
  fun w hw => (h w hw).mono fun e w' ⟨v, g', m', h1, h2, h3, h4, h5⟩ => ⟨v, g', m', h1, hr _ _ _ h5.le h2, h3, h4, h5⟩

def zipEnv : Nat → List SV → Env
  | _, [] => []
  | i, v :: r => (i, v) :: zipEnv (i + 1) r
theorem zipEnv_get : ∀ (l : List SV) (i t : Nat) (x : SV), (zipEnv i l).get t = some x → l[t - i]? = some x ∧ i ≤ t
  | [], i, t, x, h => by simp [zipEnv, Env.get] at h
  | v :: r, i, t, x, h => by
    simp only [zipEnv, Env.get_cons] at h
    by_cases e : i = t
    · subst e; simp only [if_true, Option.some.injEq] at h; exact ⟨by simp [h], Nat.le_refl _⟩
    · simp only [e, if_false] at h
      obtain ⟨h1, h2⟩ := zipEnv_get r (i + 1) t x h
      exact ⟨by rw [show t - i = (t - (i + 1)) + 1 by omega]; simpa using h1, by omega⟩
theorem TriE.intro {P : Program} {f : FuncId} {fn : Func} {c : Code} {args : List Value} (svs : List SV) {g : GH} {ow : Mem} {X : List PanicEntry → Prop} {R : Value → GH → Mem → Prop} {K0 : KK}
    (hf : P.funcs[f]? = some fn) (hb : fn.body = some c) (hl : args.length ≤ fn.ntmps) (hs : svs.map (SV.den ow) = args.map some)
    (h : COK P ⟨fn.ntmps, [], X⟩ c (zipEnv 0 svs) ow g K0)
    (hfin : ∀ x e m g' a w, K0 x e m g' → Agr a ⟨fn.ntmps, [], X⟩ e m → Has w g' m → (x = .normal ∨ x = .ret) ∧ ∃ v g'' M, (results fn a.tmps).run P w = .ok v w ∧ R v g'' M ∧ ow.ext M ∧ Has w g'' M ∧ Fr w m g' w M g'') :
    TriE P f args g ow X R := by
  intro w hw
  refine calls_of_wp hf hb (wp_mono (h.ok _ w ?_ hw) ?_)
  · refine ⟨rfl, by simp; omega, fun t x hx => ?_⟩
    obtain ⟨h1, _⟩ := zipEnv_get svs 0 t x hx
    simp only [Nat.sub_zero] at h1
    have h2 : (svs.map (SV.den ow))[t]? = some (x.den ow) := by simp [h1]
    rw [hs] at h2
    simp only [List.getElem?_map, Option.map_eq_some_iff] at h2
    obtain ⟨v, h3, h4⟩ := h2
    refine ⟨v, h4.symm, ?_⟩
    have : t < args.length := (List.getElem?_eq_some_iff.1 h3).1
    rw [List.getElem?_eq_getElem this] at h3
    simpa [Array.getElem?_append, this] using h3
  · rintro x a' w' ⟨e', m', g', h1, h2, h3, hx | ⟨ch, rfl, hx⟩⟩
    · obtain ⟨hx, v, g'', M, k1, k2, k3, k4, k5⟩ := hfin x e' m' g' a' w' hx h1 h2
      rcases hx with rfl | rfl
      · exact ⟨h1.defers, v, k1, .inl ⟨v, g'', M, rfl, k2, k3, k4, h3.trans k5⟩⟩
      · exact ⟨h1.defers, v, k1, .inl ⟨v, g'', M, rfl, k2, k3, k4, h3.trans k5⟩⟩
    · refine ⟨h1.defers, .inr ⟨ch, g', rfl, hx, ⟨h2.sub, (fun s hs => by cases hs), (fun i j s t hi => by simp at hi), fun b hb => by simp [Mem.lives] at hb⟩, ?_⟩⟩
      exact ⟨h3.os, h3.tape, h3.output, h3.size, h3.le, h3.keep, h3.gnew, fun b _ _ hm => by simp [Mem.lives] at hm⟩

/-! ### what is one's own is made known for good -/
theorem live_iff {s : Slot} : s.live = true ↔ ∃ o, s.o.ob = some o := Option.isSome_iff_exists
theorem lives_set {m : Mem} {k : Nat} {s s' : Slot} (hk : m[k]? = some s) (hb : s'.b = s.b) {o : Obj} (hs : s.o.ob = some o) {b : Nat} (h : b ∈ Mem.lives (m.set k s')) : b ∈ m.lives := by
  obtain ⟨t, ht, rfl, x, hx⟩ := Mem.mem_lives.1 h
  obtain ⟨i, hi⟩ := List.mem_iff_getElem?.1 ht
  by_cases e : k = i
  · subst e
    rw [List.getElem?_set_self (List.getElem?_eq_some_iff.1 hk).1] at hi
    obtain rfl := Option.some.inj hi
    rw [hb]
    exact Mem.mem_lives.2 ⟨s, List.mem_of_getElem? hk, rfl, o, hs⟩
  · rw [List.getElem?_set_ne e] at hi
    exact Mem.mem_lives.2 ⟨t, List.mem_of_getElem? hi, rfl, x, hx⟩
theorem Has.freeze {w g m} (h : Has w g m) {k : Nat} {s : Slot} (hk : m[k]? = some s) {ob : Obj} (hs : s.o.ob = some ob) : Has w (fun b => if b = s.b then some ob else g b) (m.set k ⟨s.b, .dead⟩) := by
  have key : ∀ {i : Nat} {t : Slot}, (m.set k ⟨s.b, .dead⟩)[i]? = some t → t.live = true → i ≠ k ∧ m[i]? = some t := by
    intro i t hi ht
    by_cases e : k = i
    · subst e
      rw [List.getElem?_set_self (List.getElem?_eq_some_iff.1 hk).1] at hi
      obtain rfl := Option.some.inj hi
      simp [Slot.live, SO.ob] at ht
    · rw [List.getElem?_set_ne e] at hi; exact ⟨fun h => e h.symm, hi⟩
  constructor
  · intro b x hx
    by_cases e : b = s.b
    · subst e; simp at hx; subst hx; exact h.own s (List.mem_of_getElem? hk) _ hs
    · simp only [e, if_false] at hx; exact h.sub b x hx
  · intro t ht x hx
    obtain ⟨i, hi⟩ := List.mem_iff_getElem?.1 ht
    obtain ⟨_, hi'⟩ := key hi (live_iff.2 ⟨x, hx⟩)
    exact h.own t (List.mem_of_getElem? hi') x hx
  · intro i j x y hi hj hx hy hb
    exact h.inj i j x y (key hi hx).2 (key hj hy).2 hx hy hb
  · intro b hb
    obtain ⟨t, ht, rfl, x, hx⟩ := Mem.mem_lives.1 hb
    obtain ⟨i, hi⟩ := List.mem_iff_getElem?.1 ht
    obtain ⟨hne, hi'⟩ := key hi (live_iff.2 ⟨x, hx⟩)
    have : t.b ≠ s.b := fun e => hne (h.inj i k t s hi' hk (live_iff.2 ⟨x, hx⟩) (live_iff.2 ⟨ob, hs⟩) e)
    simp only [this, if_false]
    exact h.apart _ (Mem.mem_lives.2 ⟨t, List.mem_of_getElem? hi', rfl, x, hx⟩)
theorem Fr.freeze {w g m} (h : Has w g m) {k : Nat} {s : Slot} (hk : m[k]? = some s) {ob : Obj} (hs : s.o.ob = some ob) : Fr w m g w (m.set k ⟨s.b, .dead⟩) (fun b => if b = s.b then some ob else g b) := by
  have hl : s.b ∈ m.lives := Mem.mem_lives.2 ⟨s, List.mem_of_getElem? hk, rfl, ob, hs⟩
  refine ⟨rfl, rfl, rfl, Nat.le_refl _, fun b x hx => ?_, fun _ _ _ => rfl, fun b _ hb => ?_, fun b _ hb hm => hb (lives_set (s' := ⟨s.b, .dead⟩) hk rfl hs hm)⟩
  · by_cases e : b = s.b
    · subst e; rw [h.apart _ hl] at hx; cases hx
    · simp only [e, if_false]; exact hx
  · rw [if_neg (fun e => hb (by rw [e]; exact hl))]

end Go.SX
