/- WholeTimers: the sorted list beside the heap. -/
import Derived.Test.YtnkfpapegknlfaaTAdd
set_option linter.unusedVariables false
set_option linter.unusedSimpArgs false
namespace Go.Proofs.Ytnkfpapegknlfaa
open Go Go.SX

def Sorted (r : List Item) : Prop := r.Pairwise fun a b => lt a b = true
theorem lt_irrefl (a : Item) : lt a a = false := by rw [lt_not]; omega
theorem lt_trans' {a b c : Item} (h1 : lt a b = true) (h2 : lt b c = true) : lt a c = true := by rw [lt_iff] at *; omega
/-- The heap's first is the sorted list's first. -/
theorem head_eq {l r : List Item} (h : HeapOk l) (hp : l.Perm r) (hs : Sorted r) {a b : Item} (ha : l[0]? = some a) (hb : r[0]? = some b) : a = b := by
  cases r with
  | nil => simp at hb
  | cons y t =>
    simp at hb
    subst hb
    have hmem : a ∈ y :: t := hp.mem_iff.1 (List.mem_of_getElem? ha)
    rcases List.mem_cons.1 hmem with e | e
    · exact e
    · have h1 := (List.pairwise_cons.1 hs).1 a e
      obtain ⟨n, hn⟩ := List.mem_iff_getElem?.1 (hp.mem_iff.2 (List.mem_cons_self (a := y) (l := t)))
      have h2 := heap_min h ha n y hn
      rw [h1] at h2
      cases h2
theorem sorted_tail {y : Item} {t : List Item} (h : Sorted (y :: t)) : Sorted t := (List.pairwise_cons.1 h).2
theorem perm_tail {l r : List Item} {a : Item} {k : Nat} (hp : l.Perm (a :: r)) (ha : l[k]? = some a) : (l.eraseIdx k).Perm r := by
  have hk := (List.getElem?_eq_some_iff.1 ha).1
  have h1 := set_perm a l k hk
  have h2 : l.set k a = l := by
    apply List.ext_getElem?
    intro j
    by_cases e : k = j
    · subst e; rw [List.getElem?_set_self hk, ha]
    · rw [List.getElem?_set_ne e]
  rw [h2] at h1
  exact (List.perm_cons a).1 (h1.symm.trans hp)
end Go.Proofs.Ytnkfpapegknlfaa
