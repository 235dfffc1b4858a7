/- A sort's world (the shelf's word) in owned slots. -/
import Derived.Test.YtnkfpapegknlfaaSxRow
import Derived.Shelf.SlSortCmp.WholeK
set_option linter.unusedVariables false
set_option linter.unusedSimpArgs false
namespace Go.SX
open Go

theorem putCells_list (cs : List Value) (F : Array Value) (h : F.size ≤ cs.length) : «Sort».putCells id 0 F cs.toArray = (F.toList ++ cs.drop F.size).toArray := by
  apply Array.ext_getElem?
  intro k
  unfold «Sort».putCells
  simp only [Array.getElem?_mapIdx, List.getElem?_toArray, Nat.zero_le, true_and, Nat.zero_add, Nat.sub_zero, id]
  by_cases hk : k < F.size
  · rw [List.getElem?_append_left (by simpa using hk)]
    simp [hk, List.getElem?_eq_getElem (show k < cs.length by omega)]
  · rw [List.getElem?_append_right (by simpa using Nat.le_of_not_lt hk)]
    simp only [hk, if_false, Array.length_toList, List.getElem?_drop]
    rw [show F.size + (k - F.size) = k by omega]
    simp
theorem sort_heap (w : World) (n b : Nat) (F : Array Value) (os : Array Obj) (cs : List Value) (t : TypeId) (fr : Nat × Nat) (hb : w.heap[b]? = some (.cells cs.toArray t fr)) (h : F.size ≤ cs.length) (k : Nat) (hk : k < w.heap.size) :
    («Sort».grow («Sort».putRow id («Sort».ahead w n) b 0 F) os).heap[k]? = if k = b then some (.cells (F.toList ++ cs.drop F.size).toArray t fr) else w.heap[k]? := by
  have h0 : («Sort».grow («Sort».putRow id («Sort».ahead w n) b 0 F) os).heap = w.heap.modify b («Sort».onCells («Sort».putCells id 0 F)) ++ os := rfl
  rw [h0, Array.getElem?_append_left (by simpa using hk), Array.getElem?_modify]
  by_cases e : k = b
  · subst e
    rw [if_pos rfl, if_pos rfl, hb]
    simp only [Option.map_some, «Sort».onCells, putCells_list cs F h]
  · rw [if_neg (Ne.symm e), if_neg e]
theorem sort_has {w : World} {g : GH} {n b : Nat} {F : Array Value} {os : Array Obj} {cs : List Value} {t : TypeId} {fr : Nat × Nat} (hw : Has w g [⟨b, .cells cs t fr⟩]) (h : F.size ≤ cs.length) :
    Has («Sort».grow («Sort».putRow id («Sort».ahead w n) b 0 F) os) g [⟨b, .cells (F.toList ++ cs.drop F.size) t fr⟩] ∧
      Fr w [⟨b, .cells cs t fr⟩] g («Sort».grow («Sort».putRow id («Sort».ahead w n) b 0 F) os) [⟨b, .cells (F.toList ++ cs.drop F.size) t fr⟩] g := by
  have hb : w.heap[b]? = some (.cells cs.toArray t fr) := hw.own ⟨b, .cells cs t fr⟩ (List.mem_singleton.2 rfl) _ rfl
  have hlt := (Array.getElem?_eq_some_iff.1 hb).1
  have hh := sort_heap w n b F os cs t fr hb h
  have hgb : g b = none := hw.apart b (Mem.mem_lives.2 ⟨_, List.mem_singleton.2 rfl, rfl, _, rfl⟩)
  have hsz : w.heap.size ≤ («Sort».grow («Sort».putRow id («Sort».ahead w n) b 0 F) os).heap.size := by
    show w.heap.size ≤ (w.heap.modify b _ ++ os).size
    simp
  refine ⟨⟨fun k o hk => ?_, fun s hs o ho => ?_, fun i j s t hi hj _ _ _ => ?_, fun k hk => ?_⟩, ⟨rfl, rfl, rfl, hsz, .refl _, fun k hk hm => ?_, fun _ _ _ => rfl, fun k hk hm => ?_⟩⟩
  · have h1 := hw.sub k o hk
    rw [hh k (Array.getElem?_eq_some_iff.1 h1).1, if_neg (fun e => by subst e; rw [hgb] at hk; cases hk)]
    exact h1
  · obtain rfl := List.mem_singleton.1 hs
    rw [hh b hlt, if_pos rfl]
    exact ho
  · have h1 := (List.getElem?_eq_some_iff.1 hi).1
    have h2 := (List.getElem?_eq_some_iff.1 hj).1
    simp at h1 h2
    omega
  · obtain ⟨s, hs, rfl, _⟩ := Mem.mem_lives.1 hk
    obtain rfl := List.mem_singleton.1 hs
    exact hgb
  · rw [hh k hk, if_neg (fun e => hm (Mem.mem_lives.2 ⟨_, List.mem_singleton.2 rfl, e.symm, _, rfl⟩))]
  · intro hm'
    obtain ⟨s, hs, rfl, _⟩ := Mem.mem_lives.1 hm'
    obtain rfl := List.mem_singleton.1 hs
    exact hm (Mem.mem_lives.2 ⟨_, List.mem_singleton.2 rfl, rfl, _, rfl⟩)
end Go.SX
