/- WholeTimers: the items in order. -/
import Derived.Test.YtnkfpapegknlfaaTPop
import Derived.Test.YtnkfpapegknlfaaTSortLay
import Derived.Test.YtnkfpapegknlfaaSxSort
import Derived.WalkKit
set_option linter.unusedVariables false
set_option linter.unusedSimpArgs false
set_option maxRecDepth 100000
namespace Go.Proofs.Ytnkfpapegknlfaa
open Go Go.SX

def cf (x y : Item) : Int := if lt x y then -1 else 1
theorem k_before (x y : Item) (W : World) : Calls Try.prog 34 #[.agg #[.int .i64 x.due, .int .i64 x.id], .agg #[.int .i64 y.due, .int .i64 y.id]] W fun e w' => e = .returned (.bool (lt x y)) ∧ ∃ os', w' = «Sort».grow W os' := by
  have hl : lt x y = (decide (x.due < y.due) || (decide (x.due = y.due) && decide (x.id < y.id))) := rfl
  have key : ∀ (b1 b2 b3 : Bool), decide (x.due < y.due) = b1 → (x.due == y.due) = b2 → decide (x.id < y.id) = b3 → Calls Try.prog 34 #[.agg #[.int .i64 x.due, .int .i64 x.id], .agg #[.int .i64 y.due, .int .i64 y.id]] W fun e w' => e = .returned (.bool (b1 || (b2 && b3))) ∧ ∃ os', w' = «Sort».grow W os' := by
    intro b1 b2 b3 h1 h2 h3
    go_enter Try.func34, Try.ntmps34
    cases b1 <;> cases b2 <;> cases b3
    all_goals go_wp2
    all_goals go_ret
    all_goals exact ⟨rfl, _, by rw [«Sort».alloc_eq_grow, «Sort».alloc_eq_grow, «Sort».grow_grow]⟩
  have := key _ _ _ rfl rfl rfl
  rw [hl]
  exact this
theorem k_cmp (x y : Item) (W : World) : Calls Try.prog 33 #[.agg #[.int .i64 x.due, .int .i64 x.id], .agg #[.int .i64 y.due, .int .i64 y.id]] W fun e w' => e = .returned (.int .i64 (cf x y)) ∧ ∃ q os', w' = «Sort».grow (W.drewN q) os' := by
  have hcon := fun W' => k_before x y W'
  have key : ∀ b, lt x y = b → Calls Try.prog 33 #[.agg #[.int .i64 x.due, .int .i64 x.id], .agg #[.int .i64 y.due, .int .i64 y.id]] W fun e w' => e = .returned (.int .i64 (if b then -1 else 1)) ∧ ∃ q os', w' = «Sort».grow (W.drewN q) os' := by
    intro b hb
    rw [hb] at hcon
    change ∀ W', Calls Try.prog 34 _ _ _ at hcon
    go_enter Try.func33, Try.ntmps33
    cases b
    all_goals go_wp2_with (go_at_call 34; refine (hcon _).mono ?_; rintro e w' ⟨rfl, os', rfl⟩)
    all_goals go_ret
    all_goals exact ⟨rfl, 0, _, by rw [«Sort».alloc_eq_grow, «Sort».alloc_eq_grow, «Sort».grow_grow, «Sort».grow_grow]; rfl⟩
  exact key _ rfl
instance : Inhabited Item := ⟨⟨0, 0⟩⟩
theorem ltOf_cf (x y : Item) : Go.Proofs.ltOf cf x y = lt x y := by
  unfold Go.Proofs.ltOf cf
  cases lt x y <;> rfl
theorem swo : «Sort».SWO (Go.Proofs.ltOf cf) where
  irrefl x := by rw [ltOf_cf]; exact lt_irrefl x
  trans x y z h1 h2 := by rw [ltOf_cf] at *; exact lt_trans' h1 h2
  ntrans x y z h1 h2 := by rw [ltOf_cf] at *; exact le_trans' h2 h1
theorem cmpLays (blk off size : Nat) (w : World) : CmpLays Try.prog 33 #[] Item.enc 2 cf blk off size w :=
  fun _ _ _ _ x y => k_cmp x y _
theorem flatK_list (d : Array Item) : («Sort».flatK Item.enc 2 d).toList = d.toList.flatMap Item.enc := by
  apply List.ext_getElem?
  intro t
  by_cases ht : t < d.size * 2
  · have h1 : t / 2 < d.size := by omega
    have hlt : t % 2 < (Item.enc d[t / 2]).length := by rw [Item.len]; omega
    have h2 := flat_get Item.len d.toList (t / 2) (t % 2) d[t / 2] ((Item.enc d[t / 2])[t % 2]) (by simp [h1]) (List.getElem?_eq_getElem hlt)
    rw [show t / 2 * 2 + t % 2 = t by omega] at h2
    rw [h2]
    have h3 := «Sort».get_flatK Item.enc 2 d t ht
    have hsz : t < («Sort».flatK Item.enc 2 d).size := by rw [«Sort».size_flatK]; exact ht
    rw [getElem!_pos («Sort».flatK Item.enc 2 d) t hsz, getElem!_pos d (t / 2) h1, getElem!_pos _ (t % 2) hlt] at h3
    rw [← h3]
    simp [hsz]
  · rw [List.getElem?_eq_none (by simp; omega), List.getElem?_eq_none (by rw [flat_len Item.len]; simp; omega)]
theorem f_sort (g : GH) (b c : Nat) (l : List Item) (rest : List Value) (hl : l.length ≤ 100000) :
    Tri Try.prog 32 [.slice (some ⟨b, 0, none⟩) l.length c, .func (.func 33) #[] #[]] g [⟨b, .cells (l.flatMap Item.enc ++ rest) 29 (0, 0)⟩]
      fun v g' m' => ∃ l' : List Item, v = .tuple #[] ∧ l'.Perm l ∧ (∀ (i j : Nat) (x y : Item), i < j → l'[i]? = some x → l'[j]? = some y → lt y x = false) ∧ m' = [⟨b, .cells (l'.flatMap Item.enc ++ rest) 29 (0, 0)⟩] := by
  intro w hw
  have hb : w.heap[b]? = some (.cells (l.flatMap Item.enc ++ rest).toArray 29 (0, 0)) := hw.own ⟨b, _⟩ (List.mem_cons_self ..) _ rfl
  have hlt : b < w.heap.size := (Array.getElem?_eq_some_iff.1 hb).1
  have hfl : («Sort».flatK Item.enc 2 l.toArray).toList = l.flatMap Item.enc := flatK_list l.toArray
  have hH : «Sort».HoldsK Item.enc 2 w b 0 l.toArray := by
    intro j hj
    have h1 : (l.flatMap Item.enc)[j]? = some («Sort».flatK Item.enc 2 l.toArray)[j]! := by
      rw [← hfl, getElem!_pos («Sort».flatK Item.enc 2 l.toArray) j hj]
      simp [hj]
    refine ⟨?_, ?_⟩
    · simp only [World.cell?, hb, Nat.zero_add, id]
      rw [List.getElem?_toArray, List.getElem?_append_left (List.getElem?_eq_some_iff.1 h1).1]
      exact h1
    · simp only [World.frozen?, hb]; simp
  have hcon := AnyQ.slices_SortFunc Try.sortIt 2 (fun w => by kernel_rfl) (fun w => by kernel_rfl) Item.enc Item.len Item.one cf swo 33 #[] b 0 c l.toArray w
    (fun args w => by kernel_rfl) (cmpLays b 0 l.toArray.size w) hH hlt (by simp; omega)
  refine hcon.mono ?_
  rintro e w' ⟨rfl, d', n, os, ⟨hp1, _, hp3⟩, hs, rfl⟩
  have hsz : d'.size = l.length := by simpa using hp1
  have hperm : d'.toList.Perm l := by
    have h1 : (d'.extract 0 l.toArray.size).toList = d'.toList := by
      rw [show l.toArray.size = d'.size by rw [hp1], Array.extract_size]
    have h2 : (l.toArray.extract 0 l.toArray.size).toList = l := by rw [Array.extract_size]
    rw [h1, h2] at hp3
    exact hp3
  have hF : («Sort».flatK Item.enc 2 d').size ≤ (l.flatMap Item.enc ++ rest).length := by
    rw [«Sort».size_flatK, List.length_append, flat_len Item.len, hsz]; omega
  obtain ⟨q1, q2⟩ := sort_has (n := n) (os := os) (F := «Sort».flatK Item.enc 2 d') hw hF
  have hcs : («Sort».flatK Item.enc 2 d').toList ++ (l.flatMap Item.enc ++ rest).drop («Sort».flatK Item.enc 2 d').size = d'.toList.flatMap Item.enc ++ rest := by
    rw [flatK_list, «Sort».size_flatK, hsz, ← flat_len Item.len l, List.drop_left' rfl]
  rw [hcs] at q1 q2
  refine ⟨_, g, _, rfl, ⟨d'.toList, rfl, hperm, ?_, rfl⟩, ?_, q1, q2⟩
  · intro i j x y hij hx hy
    obtain ⟨hi1, hi2⟩ := List.getElem?_eq_some_iff.1 hx
    obtain ⟨hj1, hj2⟩ := List.getElem?_eq_some_iff.1 hy
    have := hs i j (Nat.zero_le _) hij (by rw [← hp1]; simpa using hj1)
    rw [ltOf_cf, getElem!_pos d' i (by simpa using hi1), getElem!_pos d' j (by simpa using hj1)] at this
    rw [← hi2, ← hj2]
    simpa using this
  · intro k s hk
    cases k with
    | zero => simp at hk; subst hk; exact ⟨_, rfl, rfl⟩
    | succ k => simp at hk
/-- Two lists in order, the same items, no two alike: the same list. -/
theorem sorted_eq : ∀ (l r : List Item), l.Perm r → Sorted r → (∀ (i j : Nat) (x y : Item), i < j → l[i]? = some x → l[j]? = some y → lt y x = false) → l = r
  | [], r, hp, _, _ => by rw [List.nil_perm.1 hp]
  | x :: l, [], hp, _, _ => by have := hp.length_eq; simp at this
  | x :: l, y :: r, hp, hr, hl => by
    have hxy : x = y := by
      have hmem : x ∈ y :: r := hp.mem_iff.1 List.mem_cons_self
      rcases List.mem_cons.1 hmem with e | e
      · exact e
      · have h1 := (List.pairwise_cons.1 hr).1 x e
        have hmem2 : y ∈ x :: l := hp.mem_iff.2 List.mem_cons_self
        rcases List.mem_cons.1 hmem2 with e2 | e2
        · exact e2.symm
        · obtain ⟨n, hn⟩ := List.mem_iff_getElem?.1 e2
          have h2 := hl 0 (n + 1) x y (by omega) rfl (by simpa using hn)
          rw [h1] at h2; cases h2
    subst hxy
    rw [sorted_eq l r ((List.perm_cons x).1 hp) (sorted_tail hr) (fun i j a b h1 h2 h3 => hl (i + 1) (j + 1) a b (by omega) (by simpa using h2) (by simpa using h3))]
end Go.Proofs.Ytnkfpapegknlfaa
