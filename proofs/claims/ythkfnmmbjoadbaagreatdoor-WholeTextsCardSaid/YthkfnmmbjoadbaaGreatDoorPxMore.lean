/- SX, more: rows, moves, calls that may panic. -/
import Derived.Test.YthkfnmmbjoadbaaGreatDoorPxMap
set_option linter.unusedVariables false
set_option linter.unusedSimpArgs false
set_option maxRecDepth 100000
namespace Go.SX
open Go
theorem OOK.appendRowN {P : Program} {n : Cfg} {o : Oper} {e : Env} {m : Mem} {g : GH} {α : Type} {enc : α → List Value} {l : List α} (y : List α) (i : Nat) {sl : Slot} {A : Option Addr} {c : Nat} {K : Env → Mem → GH → Prop} {t u el : TypeId} {s x : Operand} {inf : TypeInfo} {z : List Value} {xv : Value} {size bytes : Nat} (hs0 : ∀ x, (enc x).length = size)
    (hop : o.op = .call ⟨.builtin .append, #[s, x], #[t, u]⟩) (hs : e.va m s = some (.slice A l.length c)) (hx : e.va m x = some xv)
    (ht : P.underlying t = some (.slice el)) (hu : (∃ e, P.underlying u = some (.slice e)) ∨ P.underlying u = some .string) (hi : P.info? el = some inf) (hsz : inf.size = size) (hbt : inf.bytes = bytes) (hz : zeroL P el = some z) (hb0 : bytes ≠ 0) (hzs : z.length = size)
    (hm : m[i]? = some sl) (ho : OwnAt el size enc l sl A c) (hsrc : Src P g m xv y.length size (y.flatMap enc)) (h1 : ∀ v ∈ y.flatMap enc, v.oneCell' = true) (hroom : (2 * (l.length + y.length) + 1000) * bytes ≤ 281474976710656) (hy : 0 < y.length)
    (hk : ∀ s' A' c', OwnAt el size enc (l ++ y) s' A' c' →
      setF m i ⟨sl.b, .dead⟩ fun m => snoc m s' 0 fun _ m => putK n o.dst (.val (.slice A' (l.length + y.length) c')) e fun e => K e m g) : OOK P n o e m g K := by
  cases ho with
  | nil b h0 =>
    subst h0
    refine OOK.appendNew (old := []) (ys := y.flatMap enc) (k := y.length) hop hs hx ht hu hi hsz hbt hz hb0 hzs Src.nil' (by simp) (flat_len hs0 y) (by show 0 < 0 + y.length; omega) hsrc hroom ?_
    intro b' c' rest h2 h3
    have := hk ⟨b', .cells ((([] : List α) ++ y).flatMap enc ++ rest) el (0, 0)⟩ (some ⟨b', 0, none⟩) c' (.own b' c' rest (by simpa using h3) (by simpa using h2))
    have hset : ∀ (L : Mem) (k : Nat), L[k]? = some ⟨b, .dead⟩ → setM L k ⟨b, .dead⟩ = some L := by
      intro L
      induction L with
      | nil => intro k hk; simp at hk
      | cons a r ih =>
        intro k hk
        cases k with
        | zero => simp at hk; subst hk; rfl
        | succ k => simp at hk; simp [setM, ih k hk]
    unfold setF at this
    rw [hset m i hm] at this
    simpa using this
  | own b c rest h2 h3 =>
    refine OOK.appendOwn (old := l.flatMap enc) (ys := y.flatMap enc) (k := y.length) i hop hs hx ht hu hi hsz hbt hz hb0 hzs hm ?_ ?_ h2 (flat_len hs0 y) hsrc h1 hroom ?_
    · rw [← flat_len hs0 l, List.take_left' rfl]
    · exact flat_len hs0 l
    · intro b' c' rest' h4 h5 _
      exact hk ⟨b', .cells (l.flatMap enc ++ y.flatMap enc ++ rest') el (0, 0)⟩ (some ⟨b', 0, none⟩) c' (by
        have : l.flatMap enc ++ y.flatMap enc = (l ++ y).flatMap enc := by simp
        rw [this]
        exact .own b' c' rest' (by rw [← this]; exact h5) (by simpa using h4))
/-- A row of one's own stays for good. -/
theorem COK.rowF {P : Program} {n : Cfg} {c : Code} {e : Env} {m : Mem} {g : GH} {K : KK} {α : Type} {el size : Nat} {enc : α → List Value} {l : List α} {s : Slot} {A : Option Addr} {cc : Nat} (i : Nat) (hO : OwnAt el size enc l s A cc) (hi : m[i]? = some s)
    (h : ∀ g', g.le g' → Row g' enc A l → COK P n c e (m.set i ⟨s.b, .dead⟩) g' K) : COK P n c e m g K := by
  cases hO with
  | nil b h0 =>
    have : m.set i ⟨b, .dead⟩ = m := by
      apply List.ext_getElem?
      intro k
      by_cases hk : i = k
      · subst hk
        rw [List.getElem?_set_self (List.getElem?_eq_some_iff.1 hi).1, hi]
      · rw [List.getElem?_set_ne hk]
    have h1 := h g (GH.le.refl _) (fun hne => absurd h0 hne)
    rw [this] at h1
    exact h1
  | own b c rest h1 h2 => exact COK.freeze i hi rfl fun g' hg hb => h g' hg (row_of (rest := rest) hb)
/-- A row of one's own stays for good. -/
theorem OOK.rowF {P : Program} {n : Cfg} {o : Oper} {e : Env} {m : Mem} {g : GH} {K : Env → Mem → GH → Prop} {α : Type} {el size : Nat} {enc : α → List Value} {l : List α} {s : Slot} {A : Option Addr} {cc : Nat} (i : Nat) (hO : OwnAt el size enc l s A cc) (hi : m[i]? = some s)
    (h : ∀ g', g.le g' → Row g' enc A l → OOK P n o e (m.set i ⟨s.b, .dead⟩) g' K) : OOK P n o e m g K := by
  cases hO with
  | nil b h0 =>
    have : m.set i ⟨b, .dead⟩ = m := by
      apply List.ext_getElem?
      intro k
      by_cases hk : i = k
      · subst hk
        rw [List.getElem?_set_self (List.getElem?_eq_some_iff.1 hi).1, hi]
      · rw [List.getElem?_set_ne hk]
    have h1 := h g (GH.le.refl _) (fun hne => absurd h0 hne)
    rw [this] at h1
    exact h1
  | own b c rest h1 h2 => exact OOK.freeze i hi rfl fun g' hg hb => h g' hg (row_of (rest := rest) hb)
theorem ERet.rowF {P : Program} {rs : List ResultVar} {ow : Mem} {R : Value → GH → Mem → Prop} {e : Env} {m : Mem} {g : GH} {α : Type} {el size : Nat} {enc : α → List Value} {l : List α} {s : Slot} {A : Option Addr} {cc : Nat} (i : Nat) (hO : OwnAt el size enc l s A cc) (hi : m[i]? = some s)
    (h : ∀ g', g.le g' → Row g' enc A l → ERet P rs ow R e (m.set i ⟨s.b, .dead⟩) g') : ERet P rs ow R e m g := by
  cases hO with
  | nil b h0 =>
    have : m.set i ⟨b, .dead⟩ = m := by
      apply List.ext_getElem?
      intro k
      by_cases hk : i = k
      · subst hk
        rw [List.getElem?_set_self (List.getElem?_eq_some_iff.1 hi).1, hi]
      · rw [List.getElem?_set_ne hk]
    have h1 := h g (GH.le.refl _) (fun hne => absurd h0 hne)
    rw [this] at h1
    exact h1
  | own b c rest h1 h2 => exact ERet.freeze i hi rfl fun g' hg hb => h g' hg (row_of (rest := rest) hb)
/-- A slot's block goes to a new slot. -/
theorem COK.move {P : Program} {n : Cfg} {c : Code} {e : Env} {m : Mem} {g : GH} {K : KK} (i : Nat) {s : Slot} (hi : m[i]? = some s) (h : COK P n c e (m.set i ⟨s.b, .dead⟩ ++ [s]) g K) : COK P n c e m g K := by
  refine ⟨fun a w ha hw => ?_⟩
  have hil := (List.getElem?_eq_some_iff.1 hi).1
  have key : ∀ {j : Nat} {t : Slot}, (m.set i ⟨s.b, .dead⟩ ++ [s])[j]? = some t → t.live = true → (j ≠ i ∧ j < m.length ∧ m[j]? = some t) ∨ (j = m.length ∧ t = s) := by
    intro j t hj ht
    rcases Nat.lt_or_ge j m.length with hlt | hge
    · rw [List.getElem?_append_left (by simpa using hlt)] at hj
      by_cases e : i = j
      · subst e
        rw [List.getElem?_set_self hlt] at hj
        obtain rfl := Option.some.inj hj
        simp [Slot.live, SO.ob] at ht
      · rw [List.getElem?_set_ne e] at hj
        exact .inl ⟨fun h => e h.symm, hlt, hj⟩
    · rw [List.getElem?_append_right (by simpa using hge)] at hj
      simp only [List.length_set] at hj
      rcases Nat.eq_or_lt_of_le hge with he | hg
      · subst he; simp at hj; exact .inr ⟨rfl, hj.symm⟩
      · rw [List.getElem?_eq_none (by simp; omega)] at hj; cases hj
  have hlv : ∀ b, b ∈ Mem.lives (m.set i ⟨s.b, .dead⟩ ++ [s]) → b ∈ m.lives := by
    intro b hb
    obtain ⟨t, ht, rfl, o, ho⟩ := Mem.mem_lives.1 hb
    obtain ⟨j, hj⟩ := List.mem_iff_getElem?.1 ht
    rcases key hj (live_iff.2 ⟨o, ho⟩) with ⟨_, _, hm⟩ | ⟨_, rfl⟩
    · exact Mem.mem_lives.2 ⟨t, List.mem_of_getElem? hm, rfl, o, ho⟩
    · exact Mem.mem_lives.2 ⟨t, List.mem_of_getElem? hi, rfl, o, ho⟩
  have h1 : Has w g (m.set i ⟨s.b, .dead⟩ ++ [s]) := by
    refine ⟨hw.sub, fun t ht o ho => ?_, fun j k x y hj hk hx hy hb => ?_, fun b hb => hw.apart b (hlv b hb)⟩
    · obtain ⟨j, hj⟩ := List.mem_iff_getElem?.1 ht
      rcases key hj (live_iff.2 ⟨o, ho⟩) with ⟨_, _, hm⟩ | ⟨_, rfl⟩
      · exact hw.own t (List.mem_of_getElem? hm) o ho
      · exact hw.own t (List.mem_of_getElem? hi) o ho
    · rcases key hj hx with ⟨a1, _, a2⟩ | ⟨a1, a2⟩ <;> rcases key hk hy with ⟨b1, _, b2⟩ | ⟨b1, b2⟩
      · exact hw.inj j k x y a2 b2 hx hy hb
      · subst b2; exact absurd (hw.inj j i x y a2 hi hx hy hb) a1
      · subst a2; exact absurd (hw.inj k i y x b2 hi hy hx hb.symm) b1
      · rw [a1, b1]
  have hext : m.ext (m.set i ⟨s.b, .dead⟩ ++ [s]) := (Mem.ext_set (s' := ⟨s.b, .dead⟩) hi rfl).trans (Mem.ext_append _ _)
  have h2 : Fr w m g w (m.set i ⟨s.b, .dead⟩ ++ [s]) g := ⟨rfl, rfl, rfl, Nat.le_refl _, .refl _, fun _ _ _ => rfl, fun _ _ _ => rfl, fun b _ hb hm => hb (hlv b hm)⟩
  exact wp_mono (h.ok a w (ha.ext hext) h1) fun _ _ _ hp => post_trans h2 hp
theorem OOK.append0 {P : Program} {n : Cfg} {o : Oper} {e : Env} {m : Mem} {g : GH} {K : Env → Mem → GH → Prop} {t u el : TypeId} {s x : Operand} {inf : TypeInfo} {A : Option Addr} {sn sc : Nat} {xv : Value}
    (hop : o.op = .call ⟨.builtin .append, #[s, x], #[t, u]⟩) (hs : e.va m s = some (.slice A sn sc)) (hx : e.va m x = some xv)
    (ht : P.underlying t = some (.slice el)) (hu : (∃ e, P.underlying u = some (.slice e)) ∨ P.underlying u = some .string) (hi : P.info? el = some inf)
    (hsrc : Src P g m xv 0 inf.size []) (hle : sn ≤ sc) (hk : putK n o.dst (.val (.slice A sn sc)) e fun e => K e m g) : OOK P n o e m g K := by
  refine OOK.val (s := .val (.slice A sn sc)) rfl (fun a w ha hw => ?_) hk
  obtain ⟨l1, l2⟩ := hsrc w hw
  have : (Builtin.append_ #[t, u] o.type #[.slice A sn sc, xv]).run P w = .ok (.slice A sn sc) w := by
    rcases hu with ⟨e', hu⟩ | hu
    all_goals
      cases A <;> simp [Builtin.append_, run_underlying ht, run_underlying hu, run_size hi, l1, l2, storeCells, hle]
  simp [execOp, hop, resolve, invoke, builtin, ha.va hs, ha.va hx, this]
end Go.SX
