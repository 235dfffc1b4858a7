/- Rows of values: a slice's elements, read for good or owned. -/
import Derived.Test.YthkfnmmbjoadbaaGreatDoorPxEq
set_option linter.unusedVariables false
namespace Go.SX
open Go

/-! ### rows -/
section
variable {α : Type} {enc : α → List Value} {size : Nat}
theorem flat_len (hs : ∀ x, (enc x).length = size) : ∀ (l : List α), (l.flatMap enc).length = l.length * size
  | [] => by simp
  | x :: r => by simp [flat_len hs r, hs, Nat.succ_mul]; omega
theorem flat_get (hs : ∀ x, (enc x).length = size) : ∀ (l : List α) (i j : Nat) (x : α) (v : Value), l[i]? = some x → (enc x)[j]? = some v → (l.flatMap enc)[i * size + j]? = some v
  | [], i, j, x, v, h, _ => by simp at h
  | y :: r, 0, j, x, v, h, hv => by
    simp at h; subst h
    rw [List.flatMap_cons, Nat.zero_mul, Nat.zero_add, List.getElem?_append_left (List.getElem?_eq_some_iff.1 hv).1]; exact hv
  | y :: r, i + 1, j, x, v, h, hv => by
    rw [List.flatMap_cons, List.getElem?_append_right (by rw [hs, Nat.succ_mul]; omega), hs, show (i + 1) * size + j - size = i * size + j by rw [Nat.succ_mul]; omega]
    exact flat_get hs r i j x v (by simpa using h) hv
theorem flat_drop (hs : ∀ x, (enc x).length = size) : ∀ (l : List α) (i : Nat), (l.flatMap enc).drop (i * size) = (l.drop i).flatMap enc
  | [], i => by simp
  | x :: r, 0 => by simp
  | x :: r, i + 1 => by
    rw [List.flatMap_cons, Nat.succ_mul, Nat.add_comm, ← List.drop_drop, List.drop_left' (hs x), flat_drop hs r i]
    simp
theorem flat_take (hs : ∀ x, (enc x).length = size) : ∀ (l : List α) (i : Nat), (l.flatMap enc).take (i * size) = (l.take i).flatMap enc
  | [], i => by simp
  | x :: r, 0 => by simp
  | x :: r, i + 1 => by
    rw [List.flatMap_cons, Nat.succ_mul, Nat.add_comm, List.take_append, List.take_of_length_le (by rw [hs x]; omega), hs x, show size + i * size - size = i * size by omega, flat_take hs r i]
    simp
/-- The slice at A reads as l, for good. -/
def Row (g : GH) (enc : α → List Value) (A : Option Addr) (l : List α) : Prop := l ≠ [] → ∃ a, A = some a ∧ Reads g a (l.flatMap enc)
theorem Row.mono {g g' : GH} (h : g.le g') {A : Option Addr} {l : List α} (r : Row g enc A l) : Row g' enc A l := fun hl =>
  let ⟨a, h1, h2⟩ := r hl
  ⟨a, h1, h2.mono h⟩
theorem Row.at_ {g : GH} {A : Option Addr} {l : List α} (hs : ∀ x, (enc x).length = size) (r : Row g enc A l) {i : Nat} {x : α} (hx : l[i]? = some x) : ∃ a, A = some a ∧ Reads g (addN a (i * size)) (enc x) := by
  obtain ⟨a, h1, h2⟩ := r (fun h => by subst h; simp at hx)
  refine ⟨a, h1, fun j v hj => ?_⟩
  rw [addN_add]
  exact h2 _ v (flat_get hs l i j x v hx hj)
end

section
variable {α : Type} {enc : α → List Value}
theorem row_of {g' : GH} {b el : Nat} {l : List α} {rest : List Value} (h : g' b = some (.cells (l.flatMap enc ++ rest).toArray el (0, 0))) : Row g' enc (some ⟨b, 0, none⟩) l := fun _ =>
  ⟨_, rfl, fun j v hj => by
    have : (l.flatMap enc ++ rest)[j]? = some v := by
      rw [List.getElem?_append_left (List.getElem?_eq_some_iff.1 hj).1]; exact hj
    simp only [cellG, addN, h, Nat.zero_add]
    simpa using this⟩
end
theorem findIdx_lt {α : Type} {p : α → Bool} {l : List α} {k : Nat} (h : l.findIdx? p = some k) : k < l.length := (List.findIdx?_eq_some_iff_getElem.1 h).1
theorem flat_set {α : Type} {enc : α → List Value} {size : Nat} (hs : ∀ x, (enc x).length = size) : ∀ (l : List α) (k j : Nat) (x y : α) (cs : List Value), l[k]? = some x → enc y = (enc x).take j ++ cs ++ (enc x).drop (j + cs.length) → j + cs.length ≤ size →
    (l.flatMap enc).take (k * size + j) ++ cs ++ (l.flatMap enc).drop (k * size + j + cs.length) = (l.set k y).flatMap enc
  | [], k, j, x, y, cs, h, _, _ => by simp at h
  | z :: r, 0, j, x, y, cs, h, he, hj => by
    simp at h; subst h
    simp only [List.set_cons_zero, List.flatMap_cons, Nat.zero_mul, Nat.zero_add, he]
    rw [List.take_append_of_le_length (by rw [hs]; omega), List.drop_append_of_le_length (by rw [hs]; omega)]
    simp
  | z :: r, k + 1, j, x, y, cs, h, he, hj => by
    have ih := flat_set hs r k j x y cs (by simpa using h) he hj
    simp only [List.set_cons_succ, List.flatMap_cons]
    rw [← ih, Nat.succ_mul, show k * size + size + j = size + (k * size + j) by omega, show size + (k * size + j) + cs.length = size + (k * size + j + cs.length) by omega]
    rw [List.take_append, List.drop_append, hs z, List.take_of_length_le (by rw [hs]; omega), List.drop_eq_nil_of_le (by rw [hs]; omega)]
    simp [Nat.add_sub_cancel_left]

theorem set_cells {α : Type} {enc : α → List Value} {size : Nat} (hs : ∀ x, (enc x).length = size) {l : List α} {k j : Nat} {x y : α} {cs rest : List Value} (h : l[k]? = some x) (he : enc y = (enc x).take j ++ cs ++ (enc x).drop (j + cs.length)) (hj : j + cs.length ≤ size) :
    (l.flatMap enc ++ rest).take (0 + k * size + j) ++ cs ++ (l.flatMap enc ++ rest).drop (0 + k * size + j + cs.length) = (l.set k y).flatMap enc ++ rest := by
  have hkl := (List.getElem?_eq_some_iff.1 h).1
  have hlen := flat_len hs l
  have hmul : (k + 1) * size ≤ l.length * size := Nat.mul_le_mul_right _ hkl
  rw [Nat.succ_mul] at hmul
  rw [Nat.zero_add, List.take_append_of_le_length (by omega), List.drop_append_of_le_length (by omega), ← flat_set hs l k j x y cs h he hj]
  simp
theorem OOK.storeElt {P : Program} {n : Cfg} {o : Oper} {e : Env} {m : Mem} {g : GH} {K : Env → Mem → GH → Prop} {α : Type} {enc : α → List Value} {size : Nat} (hs : ∀ x, (enc x).length = size) {t : TypeId} {px py : Operand} (i : Nat) {b k j : Nat} {v : Value} {l : List α} {x : α} (y : α) {rest : List Value} {t' : TypeId} {inf : TypeInfo}
    (hop : o.op = .store t px py) (hx : e.va m px = some (.pointer (some ⟨b, 0 + k * size + j, none⟩))) (hy : e.va m py = some v) (hm : m[i]? = some ⟨b, .cells (l.flatMap enc ++ rest) t' (0, 0)⟩) (hi : P.info? t = some inf) (hsz : v.cells.toList.length = inf.size)
    (h1 : allOne v.cells.toList = true) (hk : l[k]? = some x) (he : enc y = (enc x).take j ++ v.cells.toList ++ (enc x).drop (j + v.cells.toList.length)) (hj : j + v.cells.toList.length ≤ size)
    (h : setF m i ⟨b, .cells ((l.set k y).flatMap enc ++ rest) t' (0, 0)⟩ fun m => putK n o.dst (.val undef) e fun e => K e m g) : OOK P n o e m g K := by
  have hkl := (List.getElem?_eq_some_iff.1 hk).1
  have hlen := flat_len hs l
  have hmul : (k + 1) * size ≤ l.length * size := Nat.mul_le_mul_right _ hkl
  rw [Nat.succ_mul] at hmul
  refine OOK.storeVal i hop hx hy hm hi hsz h1 (by rw [List.length_append]; omega) ?_
  rw [set_cells hs hk he hj]
  unfold setF at h
  split at h
  · rename_i M hM
    obtain ⟨rfl, _⟩ := setM_eq _ _ _ _ hM
    exact h
  · exact h.elim

/-! ### a row that is read for good or owned by the caller -/
def RowIn {α : Type} (g : GH) (m : Mem) (enc : α → List Value) (A : Option Addr) (l : List α) : Prop :=
  l ≠ [] → (∃ a, A = some a ∧ Reads g a (l.flatMap enc)) ∨ ∃ (i b : Nat) (cs : List Value) (t : TypeId) (fr : Nat × Nat), m[i]? = some ⟨b, .cells cs t fr⟩ ∧ A = some ⟨b, 0, none⟩ ∧ ∀ (j : Nat) (v : Value), (l.flatMap enc)[j]? = some v → cs[j]? = some v
theorem Row.in_ {α : Type} {g : GH} {m : Mem} {enc : α → List Value} {A : Option Addr} {l : List α} (h : Row g enc A l) : RowIn g m enc A l := fun hl => .inl (h hl)
theorem RowIn.mono {α : Type} {g g' : GH} {m : Mem} {enc : α → List Value} {A : Option Addr} {l : List α} (h : RowIn g m enc A l) (k : g.le g') : RowIn g' m enc A l := fun hl => by
  rcases h hl with ⟨a, h1, h2⟩ | h
  · exact .inl ⟨a, h1, h2.mono k⟩
  · exact .inr h
/-- Cells that are read: for good, or in a slot that is owned. -/
def ReadsIn (g : GH) (m : Mem) (a : Addr) (cs : List Value) : Prop :=
  Reads g a cs ∨ ∃ (i b q : Nat) (c : List Value) (t : TypeId) (fr : Nat × Nat), m[i]? = some ⟨b, .cells c t fr⟩ ∧ a = ⟨b, q, none⟩ ∧ ∀ (j : Nat) (v : Value), cs[j]? = some v → c[q + j]? = some v
theorem RowIn.at_ {α : Type} {g : GH} {m : Mem} {enc : α → List Value} {size : Nat} {A : Option Addr} {l : List α} (hs : ∀ x, (enc x).length = size) (r : RowIn g m enc A l) {i : Nat} {x : α} (hx : l[i]? = some x) : ∃ a, A = some a ∧ ReadsIn g m (addN a (i * size)) (enc x) := by
  rcases r (fun h => by subst h; simp at hx) with ⟨a, h1, h2⟩ | ⟨k, b, cs, t, fr, h1, rfl, h2⟩
  · refine ⟨a, h1, .inl fun j v hj => ?_⟩
    rw [addN_add]
    exact h2 _ v (flat_get hs l i j x v hx hj)
  · refine ⟨_, rfl, .inr ⟨k, b, i * size, cs, t, fr, h1, by simp [addN], fun j v hj => h2 _ v (flat_get hs l i j x v hx hj)⟩⟩
theorem YN.loadsIn {P : Program} {n : Cfg} {o : Oper} {e : Env} {m : Mem} {g : GH} {t : TypeId} {x : Operand} {K : SV → Prop} {a : Addr} {cs : List Value} (hop : o.op = .load t x) (hx : e.va m x = some (.pointer (some a))) (ht : aggN P t = some (some cs.length))
    (hc : ReadsIn g m a cs) (k : K (.val (.agg cs.toArray))) : YN P n o e m g K := by
  rcases hc with h | ⟨i, b, q, c, t', fr, h1, rfl, h2⟩
  · exact .loads hop hx ht h k
  · exact .loadsOwn i hop hx ht h1 h2 k

/-- A row of one's own: a slot that is dead where there is no row, or the row's block. -/
inductive OwnAt {α : Type} (el size : Nat) (enc : α → List Value) (l : List α) : Slot → Option Addr → Nat → Prop
  | nil (b : Nat) : l = [] → OwnAt el size enc l ⟨b, .dead⟩ none 0
  | own (b c : Nat) (rest : List Value) : (l.flatMap enc ++ rest).length = c * size → l.length ≤ c → OwnAt el size enc l ⟨b, .cells (l.flatMap enc ++ rest) el (0, 0)⟩ (some ⟨b, 0, none⟩) c
theorem OwnAt.in_ {α : Type} {el size : Nat} {enc : α → List Value} {l : List α} {s : Slot} {A : Option Addr} {c : Nat} (h : OwnAt el size enc l s A c) {g : GH} {m : Mem} (i : Nat) (hm : m[i]? = some s) : RowIn g m enc A l := by
  intro hl
  cases h with
  | nil b h => exact absurd h hl
  | own b c rest h1 h2 => exact .inr ⟨i, b, _, _, _, hm, rfl, fun j v hj => by rw [List.getElem?_append_left (List.getElem?_eq_some_iff.1 hj).1]; exact hj⟩
theorem OwnAt.live {α : Type} {el size : Nat} {enc : α → List Value} {l : List α} {s : Slot} {A : Option Addr} {c k : Nat} (h : OwnAt el size enc l s A c) (hk : k < l.length) :
    ∃ b rest, s = ⟨b, .cells (l.flatMap enc ++ rest) el (0, 0)⟩ ∧ A = some ⟨b, 0, none⟩ ∧ (l.flatMap enc ++ rest).length = c * size ∧ l.length ≤ c := by
  cases h with
  | nil b h => subst h; simp at hk
  | own b c rest h1 h2 => exact ⟨b, rest, rfl, rfl, h1, h2⟩
theorem OOK.appendRow {P : Program} {n : Cfg} {o : Oper} {e : Env} {m : Mem} {g : GH} {α : Type} {enc : α → List Value} {l : List α} (y : α) (i : Nat) {sl : Slot} {A : Option Addr} {c : Nat} {K : Env → Mem → GH → Prop} {t u el : TypeId} {s x : Operand} {inf : TypeInfo} {z : List Value} {xv : Value} {size bytes : Nat} (hs0 : ∀ x, (enc x).length = size)
    (hop : o.op = .call ⟨.builtin .append, #[s, x], #[t, u]⟩) (hs : e.va m s = some (.slice A l.length c)) (hx : e.va m x = some xv)
    (ht : P.underlying t = some (.slice el)) (hu : (∃ e, P.underlying u = some (.slice e)) ∨ P.underlying u = some .string) (hi : P.info? el = some inf) (hsz : inf.size = size) (hbt : inf.bytes = bytes) (hz : zeroL P el = some z) (hb0 : bytes ≠ 0) (hzs : z.length = size)
    (hm : m[i]? = some sl) (ho : OwnAt el size enc l sl A c) (hsrc : Src P g m xv 1 size (enc y)) (h1 : ∀ v ∈ enc y, v.oneCell' = true) (hroom : (2 * (l.length + 1) + 1000) * bytes ≤ 281474976710656)
    (hk : ∀ d s' A' c', OwnAt el size enc (l ++ [y]) s' A' c' →
      setF m i ⟨d, .dead⟩ fun m => snoc m s' 0 fun _ m => putK n o.dst (.val (.slice A' (l.length + 1) c')) e fun e => K e m g) : OOK P n o e m g K := by
  cases ho with
  | nil b h0 =>
    subst h0
    refine OOK.appendNew (old := []) (ys := enc y) (k := 1) hop hs hx ht hu hi hsz hbt hz hb0 hzs Src.nil' (by simp) (by rw [hs0]; omega) (by simp) hsrc hroom ?_
    intro b' c' rest h2 h3
    have := hk b ⟨b', .cells ((([] : List α) ++ [y]).flatMap enc ++ rest) el (0, 0)⟩ (some ⟨b', 0, none⟩) c' (.own b' c' rest (by simpa using h3) (by simpa using h2))
    have hset : ∀ (L : Mem) (k : Nat), L[k]? = some ⟨b, .dead⟩ → setM L k ⟨b, .dead⟩ = some L := by
      intro L
      induction L with
      | nil => intro k hk; simp at hk
      | cons a r ih =>
        intro k hk
        cases k with
        | zero => simp at hk; subst hk; rfl
        | succ k => simp at hk; simp [setM, ih k hk]
    unfold setF at this
    rw [hset m i hm] at this
    simpa using this
  | own b c rest h2 h3 =>
    refine OOK.appendOwn (old := l.flatMap enc) (ys := enc y) (k := 1) i hop hs hx ht hu hi hsz hbt hz hb0 hzs hm ?_ ?_ h2 (by rw [hs0]; omega) hsrc h1 hroom ?_
    · rw [← flat_len hs0 l, List.take_left' rfl]
    · exact flat_len hs0 l
    · intro b' c' rest' h4 h5 _
      exact hk b ⟨b', .cells (l.flatMap enc ++ enc y ++ rest') el (0, 0)⟩ (some ⟨b', 0, none⟩) c' (by
        have : l.flatMap enc ++ enc y = (l ++ [y]).flatMap enc := by simp
        rw [this]
        exact .own b' c' rest' (by rw [← this]; exact h5) (by simpa using h4))

theorem OOK.appendRowB {P : Program} {n : Cfg} {o : Oper} {e : Env} {m : Mem} {g : GH} {α : Type} {enc : α → List Value} {l : List α} (y : α) (i : Nat) {sl : Slot} {A : Option Addr} {c : Nat} {K : Env → Mem → GH → Prop} {t u el : TypeId} {s x : Operand} {inf : TypeInfo} {z : List Value} {xv : Value} {size bytes : Nat} (hs0 : ∀ x, (enc x).length = size)
    (hop : o.op = .call ⟨.builtin .append, #[s, x], #[t, u]⟩) (hs : e.va m s = some (.slice A l.length c)) (hx : e.va m x = some xv)
    (ht : P.underlying t = some (.slice el)) (hu : (∃ e, P.underlying u = some (.slice e)) ∨ P.underlying u = some .string) (hi : P.info? el = some inf) (hsz : inf.size = size) (hbt : inf.bytes = bytes) (hz : zeroL P el = some z) (hb0 : bytes ≠ 0) (hzs : z.length = size)
    (hm : m[i]? = some sl) (ho : OwnAt el size enc l sl A c) (hsrc : Src P g m xv 1 size (enc y)) (h1 : ∀ v ∈ enc y, v.oneCell' = true) (hroom : (2 * (l.length + 1) + 1000) * bytes ≤ 281474976710656)
    (hk : ∀ s' A' c', OwnAt el size enc (l ++ [y]) s' A' c' →
      setF m i ⟨sl.b, .dead⟩ fun m => snoc m s' 0 fun _ m => putK n o.dst (.val (.slice A' (l.length + 1) c')) e fun e => K e m g) : OOK P n o e m g K := by
  cases ho with
  | nil b h0 =>
    subst h0
    refine OOK.appendNew (old := []) (ys := enc y) (k := 1) hop hs hx ht hu hi hsz hbt hz hb0 hzs Src.nil' (by simp) (by rw [hs0]; omega) (by simp) hsrc hroom ?_
    intro b' c' rest h2 h3
    have := hk ⟨b', .cells ((([] : List α) ++ [y]).flatMap enc ++ rest) el (0, 0)⟩ (some ⟨b', 0, none⟩) c' (.own b' c' rest (by simpa using h3) (by simpa using h2))
    have hset : ∀ (L : Mem) (k : Nat), L[k]? = some ⟨b, .dead⟩ → setM L k ⟨b, .dead⟩ = some L := by
      intro L
      induction L with
      | nil => intro k hk; simp at hk
      | cons a r ih =>
        intro k hk
        cases k with
        | zero => simp at hk; subst hk; rfl
        | succ k => simp at hk; simp [setM, ih k hk]
    unfold setF at this
    rw [hset m i hm] at this
    simpa using this
  | own b c rest h2 h3 =>
    refine OOK.appendOwn (old := l.flatMap enc) (ys := enc y) (k := 1) i hop hs hx ht hu hi hsz hbt hz hb0 hzs hm ?_ ?_ h2 (by rw [hs0]; omega) hsrc h1 hroom ?_
    · rw [← flat_len hs0 l, List.take_left' rfl]
    · exact flat_len hs0 l
    · intro b' c' rest' h4 h5 _
      exact hk ⟨b', .cells (l.flatMap enc ++ enc y ++ rest') el (0, 0)⟩ (some ⟨b', 0, none⟩) c' (by
        have : l.flatMap enc ++ enc y = (l ++ [y]).flatMap enc := by simp
        rw [this]
        exact .own b' c' rest' (by rw [← this]; exact h5) (by simpa using h4))

/-- A place for what is not there yet. -/
theorem COK.dummy {P : Program} {n : Cfg} {c : Code} {e : Env} {m : Mem} {g : GH} {K : KK} (b : Nat) (h : COK P n c e (m ++ [⟨b, .dead⟩]) g K) : COK P n c e m g K := by
  have hl : Mem.lives (m ++ [⟨b, .dead⟩]) = m.lives := by rw [Mem.lives_append]; exact List.append_nil _
  refine ⟨fun a w ha hw => ?_⟩
  have hget : ∀ {i : Nat} {s : Slot}, (m ++ [⟨b, .dead⟩])[i]? = some s → s.live = true → m[i]? = some s := by
    intro i s hi hs
    rcases Nat.lt_or_ge i m.length with h | h
    · rwa [List.getElem?_append_left h] at hi
    · rw [List.getElem?_append_right h] at hi
      have := List.mem_of_getElem? hi
      obtain rfl := List.mem_singleton.1 this
      cases hs
  have hown : ∀ s ∈ m ++ [⟨b, .dead⟩], ∀ o, s.o.ob = some o → w.heap[s.b]? = some o := by
    intro s hs o ho
    rcases List.mem_append.1 hs with hs | hs
    · exact hw.own s hs o ho
    · obtain rfl := List.mem_singleton.1 hs
      cases ho
  have hw' : Has w g (m ++ [⟨b, .dead⟩]) := ⟨hw.sub, hown, fun i j s t hi hj hs ht hb => hw.inj i j s t (hget hi hs) (hget hj ht) hs ht hb, by rw [hl]; exact hw.apart⟩
  have hx : m.ext (m ++ [⟨b, .dead⟩]) := fun k s hk => ⟨s, by rw [List.getElem?_append_left (List.getElem?_eq_some_iff.1 hk).1]; exact hk, rfl⟩
  refine wp_mono (h.ok a w (ha.ext hx) hw') fun x a' w' ⟨e', m', g', h1, h2, h3, h4⟩ => ⟨e', m', g', h1, h2, ?_, h4⟩
  refine ⟨h3.os, h3.tape, h3.output, h3.size, h3.le, ?_, ?_, ?_⟩
  · have := h3.keep; rwa [hl] at this
  · have := h3.gnew; rwa [hl] at this
  · have := h3.mnew; rwa [hl] at this
/-- A contract that changes nothing, among more slots. -/
theorem Tri.sub {P : Program} {f : FuncId} {args : List Value} {g : GH} {M ow : Mem} {R : Value → Prop} (is : List Nat) (hn : is.Nodup) (hp : pickM ow is = some M) (h : Tri P f args g M fun v _ m' => R v ∧ m' = M) :
    Tri P f args g ow fun v _ m' => R v ∧ m' = ow := by
  intro w hw
  have hp' := pickM_ok hp
  refine (h w (pick_ow hw hn hp')).mono ?_
  rintro en w' ⟨v, g', m', rfl, ⟨hR, rfl⟩, he, hw', hfr⟩
  have hlt : ∀ i ∈ is, i < ow.length := by
    intro i hi
    obtain ⟨k, hk⟩ := List.mem_iff_getElem?.1 hi
    have h4 : (is.map (fun i => ow[i]?))[k]? = (m'.map some)[k]? := by rw [hp']
    simp only [List.getElem?_map, hk, Option.map_some] at h4
    cases ho' : m'[k]? with
    | none => rw [ho'] at h4; simp at h4
    | some s => rw [ho'] at h4; simp at h4; exact (List.getElem?_eq_some_iff.1 h4).1
  have hll : is.length = m'.length := by simpa using congrArg List.length hp'
  obtain ⟨k1, k2, k3⟩ := merge_ok hw hn hp' (by omega) hlt he hw' hfr
  have : updM ow is (m'.take is.length) ++ m'.drop is.length = ow := by
    rw [hll, List.take_of_length_le (Nat.le_refl _), List.drop_eq_nil_of_le (Nat.le_refl _), List.append_nil]
    obtain ⟨u1, u2, u3⟩ := updM_ok is ow m' hn hll hlt
    apply List.ext_getElem?
    intro k
    by_cases hk : k ∈ is
    · obtain ⟨j, hj⟩ := List.mem_iff_getElem?.1 hk
      rw [u2 j k hj]
      have h4 : (is.map (fun i => ow[i]?))[j]? = (m'.map some)[j]? := by rw [hp']
      simp only [List.getElem?_map, hj, Option.map_some] at h4
      cases ho' : m'[j]? with
      | none => rw [ho'] at h4; simp at h4
      | some s => rw [ho'] at h4; simpa using h4.symm
    · exact u3 k hk
  rw [this] at k1 k2 k3
  exact ⟨v, g', ow, rfl, ⟨hR, rfl⟩, k3, k1, k2⟩
end Go.SX
