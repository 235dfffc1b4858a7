/- WholeTimers: the plain law of a binary heap in a list. -/
import Derived.Test.YtnkfpapegknlfaaTData
set_option linter.unusedVariables false
set_option linter.unusedSimpArgs false
namespace Go.Proofs.Ytnkfpapegknlfaa
open Go Go.SX

def lt (a b : Item) : Bool := decide (a.due < b.due) || (decide (a.due = b.due) && decide (a.id < b.id))
theorem lt_iff {a b : Item} : lt a b = true ↔ a.due < b.due ∨ (a.due = b.due ∧ a.id < b.id) := by simp [lt]
theorem lt_not {a b : Item} : lt a b = false ↔ ¬ (a.due < b.due ∨ (a.due = b.due ∧ a.id < b.id)) := by rw [← lt_iff]; simp
theorem le_trans' {a b c : Item} (h1 : lt b a = false) (h2 : lt c b = false) : lt c a = false := by
  rw [lt_not] at *; omega
theorem le_of_lt' {a b : Item} (h : lt a b = true) : lt b a = false := by
  rw [lt_iff] at h; rw [lt_not]; omega
/-- The item at j is not before the one at its parent. -/
def ok (l : List Item) (j : Nat) : Prop := ∀ x p, l[j]? = some x → l[(j - 1) / 2]? = some p → lt x p = false
def HeapOk (l : List Item) : Prop := ∀ j, 0 < j → ok l j
/-- The children of k are not before k's parent. -/
def gp (l : List Item) (k : Nat) : Prop := 0 < k → ∀ c x p, (c = 2 * k + 1 ∨ c = 2 * k + 2) → l[c]? = some x → l[(k - 1) / 2]? = some p → lt x p = false
def Up (l : List Item) (k : Nat) : Prop := (∀ j, 0 < j → j ≠ k → ok l j) ∧ gp l k
def Bk (l : List Item) (k : Nat) : Prop := (∀ j, 0 < j → j ≠ k → (j - 1) / 2 ≠ k → ok l j) ∧ gp l k
def Dn (l : List Item) (k : Nat) : Prop := (∀ j, 0 < j → (j - 1) / 2 ≠ k → ok l j) ∧ gp l k
def swp (l : List Item) (i j : Nat) (a b : Item) : List Item := (l.set i b).set j a
theorem swp_get {l : List Item} {i j : Nat} {a b : Item} (hi : l[i]? = some a) (hj : l[j]? = some b) (k : Nat) : (swp l i j a b)[k]? = if k = j then some a else if k = i then some b else l[k]? := by
  have h1 := (List.getElem?_eq_some_iff.1 hi).1
  have h2 := (List.getElem?_eq_some_iff.1 hj).1
  unfold swp
  by_cases hk : k = j
  · subst hk
    rw [List.getElem?_set_self (by simpa using h2), if_pos rfl]
  · rw [List.getElem?_set_ne (Ne.symm hk), if_neg hk]
    by_cases hk2 : k = i
    · subst hk2; rw [List.getElem?_set_self h1, if_pos rfl]
    · rw [List.getElem?_set_ne (Ne.symm hk2), if_neg hk2]
theorem swp_perm {l : List Item} {i j : Nat} {a b : Item} (hi : l[i]? = some a) (hj : l[j]? = some b) : (swp l i j a b).Perm l := by
  obtain ⟨h1, h1'⟩ := List.getElem?_eq_some_iff.1 hi
  obtain ⟨h2, h2'⟩ := List.getElem?_eq_some_iff.1 hj
  have := Array.swap_perm (xs := l.toArray) (i := i) (j := j) (by simpa using h1) (by simpa using h2)
  have h3 : (l.toArray.swap i j (by simpa using h1) (by simpa using h2)).toList = swp l i j a b := by
    simp [Array.swap, swp, h1', h2']
  rw [← h3]
  simpa using this.toList
theorem Up.heap {l : List Item} {k : Nat} (h : Up l k) (hk : k = 0 ∨ ok l k) : HeapOk l := fun j hj => by
  by_cases e : j = k
  · subst e
    rcases hk with rfl | hk
    · omega
    · exact hk
  · exact h.1 j hj e
theorem HeapOk.dn {l : List Item} (h : HeapOk l) (k : Nat) : Dn l k := ⟨fun j hj _ => h j hj, fun hk c x p hc hx hp => by
  have hkl : c < l.length := (List.getElem?_eq_some_iff.1 hx).1
  obtain ⟨y, hy⟩ : ∃ y, l[k]? = some y := ⟨_, List.getElem?_eq_getElem (by omega)⟩
  exact le_trans' (h k hk y p hy hp) (h c (by omega) x y hx (by rw [show (c - 1) / 2 = k by omega]; exact hy))⟩
theorem Bk.dn {l : List Item} {k : Nat} (h : Bk l k) (hk : k = 0 ∨ ok l k) : Dn l k := ⟨fun j hj hp => by
  by_cases e : j = k
  · subst e
    rcases hk with rfl | hk
    · omega
    · exact hk
  · exact h.1 j hj e hp, h.2⟩
/-- A step up. -/
theorem up_step {l : List Item} {k : Nat} {a b : Item} (h : Up l k ∨ Bk l k) (hk : 0 < k) (ha : l[k]? = some a) (hb : l[(k - 1) / 2]? = some b) (hlt : lt a b = true) : Up (swp l k ((k - 1) / 2) a b) ((k - 1) / 2) := by
  have hg : gp l k := by rcases h with h | h <;> exact h.2
  have hall : ∀ j, 0 < j → j ≠ k → (j - 1) / 2 ≠ k → ok l j := by
    rcases h with h | h
    · exact fun j h1 h2 _ => h.1 j h1 h2
    · exact h.1
  have hget := swp_get ha hb
  constructor
  · intro j hj hne x p hx hp
    rw [hget] at hx hp
    rw [if_neg hne] at hx
    by_cases e1 : j = k
    · subst e1
      rw [if_pos rfl] at hx
      rw [if_pos rfl] at hp
      obtain rfl := Option.some.inj hx
      obtain rfl := Option.some.inj hp
      exact le_of_lt' hlt
    · rw [if_neg e1] at hx
      by_cases e2 : (j - 1) / 2 = (k - 1) / 2
      · rw [if_pos e2] at hp
        obtain rfl := Option.some.inj hp
        exact le_trans' (le_of_lt' hlt) (hall j hj e1 (by omega) x b hx (by rw [e2]; exact hb))
      · rw [if_neg e2] at hp
        by_cases e3 : (j - 1) / 2 = k
        · rw [if_pos e3] at hp
          obtain rfl := Option.some.inj hp
          exact hg hk j x b (by omega) hx hb
        · rw [if_neg e3] at hp
          exact hall j hj e1 e3 x p hx hp
  · intro hp0 c x p hc hx hp
    rw [hget] at hx hp
    rw [if_neg (by omega), if_neg (by omega)] at hp
    rw [if_neg (by omega)] at hx
    have hpar : ok l ((k - 1) / 2) := hall _ hp0 (by omega) (by omega)
    have hbp := hpar b p hb hp
    by_cases e1 : c = k
    · rw [if_pos e1] at hx
      obtain rfl := Option.some.inj hx
      exact hbp
    · rw [if_neg e1] at hx
      exact le_trans' hbp (hall c (by omega) e1 (by omega) x b hx (by rw [show (c - 1) / 2 = (k - 1) / 2 by omega]; exact hb))
/-- A step down, to the least child. -/
theorem dn_step {l : List Item} {k m : Nat} {a b : Item} (h : Dn l k) (hm : m = 2 * k + 1 ∨ m = 2 * k + 2) (ha : l[k]? = some a) (hb : l[m]? = some b) (hlt : lt b a = true) (hleast : ∀ c y, (c = 2 * k + 1 ∨ c = 2 * k + 2) → l[c]? = some y → lt y b = false) : Dn (swp l k m a b) m := by
  have hget := swp_get ha hb
  constructor
  · intro j hj hne x p hx hp
    rw [hget] at hx hp
    by_cases e1 : j = m
    · rw [if_pos e1] at hx
      rw [if_neg (by omega), if_pos (by omega)] at hp
      obtain rfl := Option.some.inj hx
      obtain rfl := Option.some.inj hp
      exact le_of_lt' hlt
    · rw [if_neg e1] at hx
      rw [if_neg hne] at hp
      by_cases e2 : j = k
      · rw [if_pos e2] at hx
        rw [if_neg (by omega)] at hp
        obtain rfl := Option.some.inj hx
        exact h.2 (by omega) m b p hm hb (by rw [← e2]; exact hp)
      · rw [if_neg e2] at hx
        by_cases e3 : (j - 1) / 2 = k
        · rw [if_pos e3] at hp
          obtain rfl := Option.some.inj hp
          exact hleast j x (by omega) hx
        · rw [if_neg e3] at hp
          exact h.1 j hj e3 x p hx hp
  · intro hm0 c x p hc hx hp
    rw [hget] at hx hp
    rw [if_neg (by omega), if_neg (by omega)] at hx
    rw [if_neg (by omega), if_pos (by omega)] at hp
    obtain rfl := Option.some.inj hp
    exact h.1 c (by omega) (by omega) x b hx (by rw [show (c - 1) / 2 = m by omega]; exact hb)
theorem dn_end {l : List Item} {k : Nat} {a : Item} (h : Dn l k) (ha : l[k]? = some a) (hc : ∀ c y, (c = 2 * k + 1 ∨ c = 2 * k + 2) → l[c]? = some y → lt y a = false) : HeapOk l := fun j hj x p hx hp => by
  by_cases e : (j - 1) / 2 = k
  · rw [e, ha] at hp
    obtain rfl := Option.some.inj hp
    exact hc j x (by omega) hx
  · exact h.1 j hj e x p hx hp
/-- The first of a heap is before no other. -/
theorem heap_min {l : List Item} (h : HeapOk l) {a : Item} (ha : l[0]? = some a) : ∀ (n : Nat) (x : Item), l[n]? = some x → lt x a = false := by
  intro n
  induction n using Nat.strongRecOn with
  | _ n ih =>
    intro x hx
    by_cases e : n = 0
    · subst e
      rw [ha] at hx
      obtain rfl := Option.some.inj hx
      rw [lt_not]; omega
    · have hlen := (List.getElem?_eq_some_iff.1 hx).1
      obtain ⟨p, hp⟩ : ∃ p, l[(n - 1) / 2]? = some p := ⟨_, List.getElem?_eq_getElem (by omega)⟩
      exact le_trans' (ih _ (by omega) p hp) (h n (by omega) x p hx hp)
end Go.Proofs.Ytnkfpapegknlfaa
