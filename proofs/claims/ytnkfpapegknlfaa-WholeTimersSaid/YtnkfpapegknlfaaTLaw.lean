/- WholeTimers: the plain law of the sorted list beside the heap. -/
import Derived.Test.YtnkfpapegknlfaaTIns
import Derived.Test.YtnkfpapegknlfaaTSearch
set_option linter.unusedVariables false
set_option linter.unusedSimpArgs false
namespace Go.Proofs.Ytnkfpapegknlfaa
open Go Go.SX

theorem find_some {l : List Item} {id : Int} {k : Nat} (h : l.findIdx? (·.id == id) = some k) : ∃ x, l[k]? = some x ∧ x.id = id := by
  obtain ⟨h1, h2, _⟩ := List.findIdx?_eq_some_iff_getElem.1 h
  exact ⟨l[k], List.getElem?_eq_getElem h1, by simpa using h2⟩
theorem find_none {l : List Item} {id : Int} : l.findIdx? (·.id == id) = none ↔ ∀ x ∈ l, x.id ≠ id := by
  rw [List.findIdx?_eq_none_iff]
  simp
theorem find_perm {l r : List Item} {id : Int} (hp : l.Perm r) : l.findIdx? (·.id == id) = none ↔ r.findIdx? (·.id == id) = none := by
  rw [find_none, find_none]
  exact ⟨fun h x hx => h x (hp.mem_iff.2 hx), fun h x hx => h x (hp.mem_iff.1 hx)⟩
theorem id_unique : ∀ {r : List Item}, (r.map Item.id).Nodup → ∀ {x y : Item}, x ∈ r → y ∈ r → x.id = y.id → x = y
  | [], _, x, y, hx, _, _ => by simp at hx
  | z :: r, h, x, y, hx, hy, e => by
    rw [List.map_cons, List.nodup_cons] at h
    rcases List.mem_cons.1 hx with e1 | hx1 <;> rcases List.mem_cons.1 hy with e2 | hy1
    · rw [e1, e2]
    · subst e1
      exact absurd (e ▸ List.mem_map_of_mem hy1) h.1
    · subst e2
      exact absurd (e ▸ List.mem_map_of_mem hx1) h.1
    · exact id_unique h.2 hx1 hy1 e
theorem perm_cons_erase : ∀ {r : List Item} {k : Nat} {x : Item}, r[k]? = some x → r.Perm (x :: r.eraseIdx k)
  | [], k, x, h => by simp at h
  | y :: r, 0, x, h => by simp at h; subst h; exact .refl _
  | y :: r, k + 1, x, h => by
    rw [List.eraseIdx_cons_succ]
    exact ((perm_cons_erase (r := r) (k := k) (by simpa using h)).cons y).trans (List.Perm.swap x y _)
theorem cancel_perm {l r : List Item} {id : Int} {k j : Nat} (hp : l.Perm r) (hn : (r.map Item.id).Nodup) (h1 : l.findIdx? (·.id == id) = some k) (h2 : r.findIdx? (·.id == id) = some j) : (l.eraseIdx k).Perm (r.eraseIdx j) := by
  obtain ⟨x, hx, ex⟩ := find_some h1
  obtain ⟨y, hy, ey⟩ := find_some h2
  have : x = y := id_unique hn (hp.mem_iff.1 (List.mem_of_getElem? hx)) (List.mem_of_getElem? hy) (ex.trans ey.symm)
  subst this
  exact perm_tail (hp.trans (perm_cons_erase hy)) hx
theorem sorted_erase {r : List Item} (h : Sorted r) (k : Nat) : Sorted (r.eraseIdx k) := List.Pairwise.sublist (List.eraseIdx_sublist r k) h
theorem ids_erase {r : List Item} (h : (r.map Item.id).Nodup) (k : Nat) : ((r.eraseIdx k).map Item.id).Nodup := List.Pairwise.sublist ((List.eraseIdx_sublist r k).map Item.id) h
theorem sorted_drop {r : List Item} (h : Sorted r) (k : Nat) : Sorted (r.drop k) := List.Pairwise.sublist (List.drop_sublist k r) h
theorem ids_drop {r : List Item} (h : (r.map Item.id).Nodup) (k : Nat) : ((r.drop k).map Item.id).Nodup := List.Pairwise.sublist ((List.drop_sublist k r).map Item.id) h
theorem ins_perm (r : List Item) (k : Nat) (x : Item) : (insAt r k x).Perm (r ++ [x]) := by
  unfold insAt
  have h1 : (r.take k ++ x :: r.drop k).Perm (x :: (r.take k ++ r.drop k)) := List.perm_middle
  rw [List.take_append_drop] at h1
  exact h1.trans (List.perm_append_comm (l₁ := [x]))
theorem ids_ins {r : List Item} {x : Item} (k : Nat) (h : (r.map Item.id).Nodup) (hx : ∀ y ∈ r, y.id ≠ x.id) : ((insAt r k x).map Item.id).Nodup := by
  rw [((ins_perm r k x).map Item.id).nodup_iff, List.map_append, List.nodup_append]
  refine ⟨h, by simp, ?_⟩
  intro a ha b hb
  obtain ⟨y, hy, rfl⟩ := List.mem_map.1 ha
  simp at hb
  subst hb
  exact hx y hy
theorem lt_total {x y : Item} (h : lt y x = false) (hi : y.id ≠ x.id) : lt x y = true := by
  rw [lt_not] at h
  rw [lt_iff]
  omega
theorem sorted_ins {r : List Item} {x : Item} {k : Nat} (h : Sorted r) (hx : ∀ y ∈ r, y.id ≠ x.id) (h1 : ∀ (j : Nat) (y : Item), j < k → r[j]? = some y → lt y x = true) (h2 : ∀ (j : Nat) (y : Item), k ≤ j → r[j]? = some y → lt y x = false) : Sorted (insAt r k x) := by
  unfold insAt Sorted
  rw [List.pairwise_append]
  have hd : ∀ y ∈ r.drop k, lt x y = true := fun y hy => by
    obtain ⟨j, hj⟩ := List.mem_iff_getElem?.1 hy
    rw [List.getElem?_drop] at hj
    exact lt_total (h2 (k + j) y (by omega) hj) (hx y (List.mem_of_mem_drop hy))
  have ht : ∀ y ∈ r.take k, lt y x = true := fun y hy => by
    obtain ⟨j, hj, rfl⟩ := List.mem_take_iff_getElem.1 hy
    exact h1 j _ (by omega) (List.getElem?_eq_getElem (by omega))
  refine ⟨List.Pairwise.sublist (List.take_sublist k r) h, List.pairwise_cons.2 ⟨hd, sorted_drop h k⟩, ?_⟩
  intro y hy z hz
  rcases List.mem_cons.1 hz with rfl | hz
  · exact ht y hy
  · exact lt_trans' (ht y hy) (hd z hz)
/-- How many are due. -/
theorem due_eq {r : List Item} {now : Int} {i j : Nat} (hi : i ≤ r.length) (hj : j ≤ r.length) (h1 : ∀ x ∈ r.take i, x.due ≤ now) (h2 : ∀ x, r[i]? = some x → now < x.due) (k1 : ∀ x ∈ r.take j, x.due ≤ now) (k2 : ∀ x, r[j]? = some x → now < x.due) : i = j := by
  rcases Nat.lt_trichotomy i j with h | h | h
  · obtain ⟨x, hx⟩ : ∃ x, r[i]? = some x := ⟨_, List.getElem?_eq_getElem (by omega)⟩
    have a := h2 x hx
    have b := k1 x (List.mem_take_iff_getElem.2 ⟨i, by omega, (List.getElem?_eq_some_iff.1 hx).2⟩)
    omega
  · exact h
  · obtain ⟨x, hx⟩ : ∃ x, r[j]? = some x := ⟨_, List.getElem?_eq_getElem (by omega)⟩
    have a := k2 x hx
    have b := h1 x (List.mem_take_iff_getElem.2 ⟨j, by omega, (List.getElem?_eq_some_iff.1 hx).2⟩)
    omega
/-- The tail of a row. -/
theorem row_tail {g : GH} {a : Addr} {x : Item} {t : List Item} (h : Row g Item.enc (some a) (x :: t)) : Row g Item.enc (some (addN a 2)) t := fun _ => by
  obtain ⟨a', h1, h2⟩ := h (by simp)
  obtain rfl := Option.some.inj h1
  refine ⟨_, rfl, fun j v hj => ?_⟩
  rw [addN_add]
  exact h2 (2 + j) v (by rw [List.flatMap_cons, List.getElem?_append_right (by rw [Item.len]; omega), Item.len, Nat.add_sub_cancel_left]; exact hj)
end Go.Proofs.Ytnkfpapegknlfaa
