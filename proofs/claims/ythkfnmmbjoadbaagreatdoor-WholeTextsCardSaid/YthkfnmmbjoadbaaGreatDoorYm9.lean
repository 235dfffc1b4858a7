/- WholeTexts: the laying of SortFunc, in plain words (printed by lay.py). -/
import Derived.Shelf.SlSortCmp.WholeK
import Derived.Shelf.SlLaysF0
import Derived.Test.YthkfnmmbjoadbaaGreatDoorProg
import Derived.Test.YthkfnmmbjoadbaaGreatDoorPxRow
import Derived.Test.YthkfnmmbjoadbaaGreatDoorYm8
import Derived.WalkKit
set_option maxRecDepth 100000
namespace Go.Proofs
open Go.Shelf
def Tryz.sortP_ren : Go.Shelf.Ren := ⟨fun | 6 => 104 | 15 => 122 | 14 => 121 | 28 => 144 | 29 => 145 | 20 => 136 | 21 => 137 | 22 => 138 | 23 => 139 | 24 => 140 | 25 => 141 | 26 => 142 | 27 => 143 | 46 => 156 | 47 => 157 | 48 => 158 | 49 => 159 | 50 => 160 | 57 => 166 | n => n, fun | 22 => 115 | 24 => 118 | 25 => 121 | 3 => 3 | 39 => 60 | 0 => 0 | 53 => 150 | 55 => 51 | 4 => 4 | 46 => 144 | 45 => 143 | 50 => 89 | 5 => 5 | 9 => 9 | 66 => 162 | 70 => 166 | 76 => 173 | 77 => 174 | n => n, fun n => n⟩
theorem Tryz.sortP : SlLaysF0.n6 Tryz.prog Tryz.sortP_ren := {
  mixed := by kernel_rfl,
  f6 := ⟨Tryz.f104.name, by decide, Tryz.func104.trans (congrArg some (by kernel_rfl))⟩,
  f14 := ⟨Tryz.f121.name, by decide, Tryz.func121.trans (congrArg some (by kernel_rfl))⟩,
  f15 := Tryz.func122.trans (congrArg some (by kernel_rfl)),
  f20 := ⟨Tryz.f136.name, by decide, Tryz.func136.trans (congrArg some (by kernel_rfl))⟩,
  f21 := ⟨Tryz.f137.name, by decide, Tryz.func137.trans (congrArg some (by kernel_rfl))⟩,
  f22 := ⟨Tryz.f138.name, by decide, Tryz.func138.trans (congrArg some (by kernel_rfl))⟩,
  f23 := ⟨Tryz.f139.name, by decide, Tryz.func139.trans (congrArg some (by kernel_rfl))⟩,
  f24 := ⟨Tryz.f140.name, by decide, Tryz.func140.trans (congrArg some (by kernel_rfl))⟩,
  f25 := ⟨Tryz.f141.name, by decide, Tryz.func141.trans (congrArg some (by kernel_rfl))⟩,
  f26 := ⟨Tryz.f142.name, by decide, Tryz.func142.trans (congrArg some (by kernel_rfl))⟩,
  f27 := ⟨Tryz.f143.name, by decide, Tryz.func143.trans (congrArg some (by kernel_rfl))⟩,
  f28 := Tryz.func144.trans (congrArg some (by kernel_rfl)),
  f29 := Tryz.func145.trans (congrArg some (by kernel_rfl)),
  f46 := ⟨Tryz.f156.name, by decide, Tryz.func156.trans (congrArg some (by kernel_rfl))⟩,
  f47 := Tryz.func157.trans (congrArg some (by kernel_rfl)),
  f48 := Tryz.func158.trans (congrArg some (by kernel_rfl)),
  f49 := ⟨Tryz.f159.name, by decide, Tryz.func159.trans (congrArg some (by kernel_rfl))⟩,
  f50 := ⟨Tryz.f160.name, by decide, Tryz.func160.trans (congrArg some (by kernel_rfl))⟩,
  f57 := ⟨Tryz.f166.name, by decide, Tryz.func166.trans (congrArg some (by kernel_rfl))⟩,
  t0 := Tryz.underlying0,
  a0 := Tryz.isAgg0,
  z0 := Tryz.sizeOf0,
  v0 := Tryz.zeroValue0,
  t3 := Tryz.underlying3,
  a3 := Tryz.isAgg3,
  z3 := Tryz.sizeOf3,
  v3 := Tryz.zeroValue3,
  t4 := Tryz.underlying4,
  a4 := Tryz.isAgg4,
  z4 := Tryz.sizeOf4,
  v4 := Tryz.zeroValue4,
  t5 := Tryz.underlying5,
  a5 := Tryz.isAgg5,
  z5 := Tryz.sizeOf5,
  v5 := Tryz.zeroValue5,
  t9 := Tryz.underlying9,
  a9 := Tryz.isAgg9,
  z9 := Tryz.sizeOf9,
  v9 := Tryz.zeroValue9,
  t22 := Tryz.underlying115,
  a22 := Tryz.isAgg115,
  z22 := Tryz.sizeOf115,
  v22 := Tryz.zeroValue115,
  t25 := Tryz.underlying121,
  a25 := Tryz.isAgg121,
  z25 := Tryz.sizeOf121,
  v25 := Tryz.zeroValue121,
  t39 := Tryz.underlying60,
  a39 := Tryz.isAgg60,
  z39 := Tryz.sizeOf60,
  v39 := Tryz.zeroValue60,
  t45 := Tryz.underlying143,
  a45 := Tryz.isAgg143,
  z45 := Tryz.sizeOf143,
  v45 := Tryz.zeroValue143,
  t46 := Tryz.underlying144,
  a46 := Tryz.isAgg144,
  z46 := Tryz.sizeOf144,
  v46 := Tryz.zeroValue144,
  t50 := Tryz.underlying89,
  a50 := Tryz.isAgg89,
  z50 := Tryz.sizeOf89,
  v50 := Tryz.zeroValue89,
  t53 := Tryz.underlying150,
  a53 := Tryz.isAgg150,
  z53 := Tryz.sizeOf150,
  v53 := Tryz.zeroValue150,
  t55 := Tryz.underlying51,
  a55 := Tryz.isAgg51,
  z55 := Tryz.sizeOf51,
  v55 := Tryz.zeroValue51,
  t66 := Tryz.underlying162,
  a66 := Tryz.isAgg162,
  z66 := Tryz.sizeOf162,
  v66 := Tryz.zeroValue162,
  t70 := Tryz.underlying166,
  a70 := Tryz.isAgg166,
  z70 := Tryz.sizeOf166,
  v70 := Tryz.zeroValue166,
  t76 := Tryz.underlying173,
  a76 := Tryz.isAgg173,
  z76 := Tryz.sizeOf173,
  v76 := Tryz.zeroValue173,
  t77 := Tryz.underlying174,
  a77 := Tryz.isAgg174,
  z77 := Tryz.sizeOf174,
  v77 := Tryz.zeroValue174 }
end Go.Proofs
/- A sort's world (the shelf's word) in owned slots. -/
set_option linter.unusedVariables false
set_option linter.unusedSimpArgs false
namespace Go.SX
open Go

theorem putCells_list (cs : List Value) (F : Array Value) (h : F.size ≤ cs.length) : «Sort».putCells id 0 F cs.toArray = (F.toList ++ cs.drop F.size).toArray := by
  apply Array.ext_getElem?
  intro k
  unfold «Sort».putCells
  simp only [Array.getElem?_mapIdx, List.getElem?_toArray, Nat.zero_le, true_and, Nat.zero_add, Nat.sub_zero, id]
  by_cases hk : k < F.size
  · rw [List.getElem?_append_left (by simpa using hk)]
    simp [hk, List.getElem?_eq_getElem (show k < cs.length by omega)]
  · rw [List.getElem?_append_right (by simpa using Nat.le_of_not_lt hk)]
    simp only [hk, if_false, Array.length_toList, List.getElem?_drop]
    rw [show F.size + (k - F.size) = k by omega]
    simp
theorem sort_heap (w : World) (n b : Nat) (F : Array Value) (os : Array Obj) (cs : List Value) (t : TypeId) (fr : Nat × Nat) (hb : w.heap[b]? = some (.cells cs.toArray t fr)) (h : F.size ≤ cs.length) (k : Nat) (hk : k < w.heap.size) :
    («Sort».grow («Sort».putRow id («Sort».ahead w n) b 0 F) os).heap[k]? = if k = b then some (.cells (F.toList ++ cs.drop F.size).toArray t fr) else w.heap[k]? := by
  have h0 : («Sort».grow («Sort».putRow id («Sort».ahead w n) b 0 F) os).heap = w.heap.modify b («Sort».onCells («Sort».putCells id 0 F)) ++ os := rfl
  rw [h0, Array.getElem?_append_left (by simpa using hk), Array.getElem?_modify]
  by_cases e : k = b
  · subst e
    rw [if_pos rfl, if_pos rfl, hb]
    simp only [Option.map_some, «Sort».onCells, putCells_list cs F h]
  · rw [if_neg (Ne.symm e), if_neg e]
theorem sort_has {w : World} {g : GH} {n b : Nat} {F : Array Value} {os : Array Obj} {cs : List Value} {t : TypeId} {fr : Nat × Nat} (hw : Has w g [⟨b, .cells cs t fr⟩]) (h : F.size ≤ cs.length) :
    Has («Sort».grow («Sort».putRow id («Sort».ahead w n) b 0 F) os) g [⟨b, .cells (F.toList ++ cs.drop F.size) t fr⟩] ∧
      Fr w [⟨b, .cells cs t fr⟩] g («Sort».grow («Sort».putRow id («Sort».ahead w n) b 0 F) os) [⟨b, .cells (F.toList ++ cs.drop F.size) t fr⟩] g := by
  have hb : w.heap[b]? = some (.cells cs.toArray t fr) := hw.own ⟨b, .cells cs t fr⟩ (List.mem_singleton.2 rfl) _ rfl
  have hlt := (Array.getElem?_eq_some_iff.1 hb).1
  have hh := sort_heap w n b F os cs t fr hb h
  have hgb : g b = none := hw.apart b (Mem.mem_lives.2 ⟨_, List.mem_singleton.2 rfl, rfl, _, rfl⟩)
  have hsz : w.heap.size ≤ («Sort».grow («Sort».putRow id («Sort».ahead w n) b 0 F) os).heap.size := by
    show w.heap.size ≤ (w.heap.modify b _ ++ os).size
    simp
  refine ⟨⟨fun k o hk => ?_, fun s hs o ho => ?_, fun i j s t hi hj _ _ _ => ?_, fun k hk => ?_⟩, ⟨rfl, rfl, rfl, hsz, .refl _, fun k hk hm => ?_, fun _ _ _ => rfl, fun k hk hm => ?_⟩⟩
  · have h1 := hw.sub k o hk
    rw [hh k (Array.getElem?_eq_some_iff.1 h1).1, if_neg (fun e => by subst e; rw [hgb] at hk; cases hk)]
    exact h1
  · obtain rfl := List.mem_singleton.1 hs
    rw [hh b hlt, if_pos rfl]
    exact ho
  · have h1 := (List.getElem?_eq_some_iff.1 hi).1
    have h2 := (List.getElem?_eq_some_iff.1 hj).1
    simp at h1 h2
    omega
  · obtain ⟨s, hs, rfl, _⟩ := Mem.mem_lives.1 hk
    obtain rfl := List.mem_singleton.1 hs
    exact hgb
  · rw [hh k hk, if_neg (fun e => hm (Mem.mem_lives.2 ⟨_, List.mem_singleton.2 rfl, e.symm, _, rfl⟩))]
  · intro hm'
    obtain ⟨s, hs, rfl, _⟩ := Mem.mem_lives.1 hm'
    obtain rfl := List.mem_singleton.1 hs
    exact hm (Mem.mem_lives.2 ⟨_, List.mem_singleton.2 rfl, rfl, _, rfl⟩)
end Go.SX
/- WholeTexts: the pairs of a table, sorted. -/
set_option linter.unusedVariables false
set_option linter.unusedSimpArgs false
set_option maxRecDepth 100000
namespace Go.Proofs.YthkfnmmbjoadbaaGreatDoor
open Go Go.SX

abbrev Pr := List UInt8 × Val
def encP (x : Pr) : List Value := .string (str x.1) :: x.2.cells
theorem encP_len (x : Pr) : (encP x).length = 6 := by show x.2.cells.length + 1 = 6; rw [Val.len]
theorem encP_one (x : Pr) : ∀ v ∈ encP x, v.oneCell' = true := by
  intro v hv
  rcases List.mem_cons.1 hv with rfl | hv
  · rfl
  · exact Val.one x.2 v hv
theorem k_cs0 (a b : List UInt8) (w : World) : Calls Tryz.prog 92 #[.string (str a), .string (str b)] w fun e w' => e = .returned (.int .i64 (cmpB a b)) ∧ w' = w := by
  go_enter Tryz.func92, Tryz.ntmps92
  go_wp2
  rw [run_callFunc_extern rfl (by kernel_rfl) (by kernel_rfl) (by kernel_rfl) (e := Extern.BytealgCompare.compare) (by kernel_rfl), Lib.run_compareString]
  simp only [Result.andThen]
  rw [Oper.upon_value]
  go_wp2
  go_ret
  exact ⟨rfl, rfl⟩
theorem k_cs (a b : List UInt8) (w : World) : Calls Tryz.prog 56 #[.string (str a), .string (str b)] w fun e w' => e = .returned (.int .i64 (cmpB a b)) ∧ w' = w := by
  go_enter Tryz.func56, Tryz.ntmps56
  go_wp2_with (go_at_call 92; refine (k_cs0 _ _ _).mono ?_; rintro e w' ⟨rfl, rfl⟩)
  go_ret
  exact ⟨rfl, rfl⟩
theorem k_cmp (x y : Pr) (W : World) : Calls Tryz.prog 105 #[.agg (encP x).toArray, .agg (encP y).toArray] W fun e w' => e = .returned (.int .i64 (cmpB x.1 y.1)) ∧ ∃ q os', w' = «Sort».grow (W.drewN q) os' := by
  obtain ⟨xa, ⟨x1, x2, x3, x4, x5, x6, x7, x8, x9⟩⟩ := x
  obtain ⟨ya, ⟨y1, y2, y3, y4, y5, y6, y7, y8, y9⟩⟩ := y
  change Calls Tryz.prog 105 #[.agg #[.string (str xa), .int .i64 x1, .int .i64 x2, .string (str x3), .slice x5 x4.length x6, .slice x8 x7.length x9], .agg #[.string (str ya), .int .i64 y1, .int .i64 y2, .string (str y3), .slice y5 y4.length y6, .slice y8 y7.length y9]] W _
  go_enter Tryz.func105, Tryz.ntmps105
  go_wp2_with (go_at_call 56; refine (k_cs _ _ _).mono ?_; rintro e w' ⟨rfl, rfl⟩)
  go_ret
  exact ⟨rfl, 0, _, by rw [«Sort».alloc_eq_grow, «Sort».alloc_eq_grow, «Sort».grow_grow]; rfl⟩
instance : Inhabited Pr := ⟨([], .mk 0 0 [] [] none 0 [] none 0)⟩
def cfP (x y : Pr) : Int := cmpB x.1 y.1
theorem cmpB_lt0 : ∀ (a b : List UInt8), Lib.compareBytes a b < 0 ↔ a < b
  | [], [] => by simp [Lib.compareBytes]
  | [], _ :: _ => by simp [Lib.compareBytes]
  | _ :: _, [] => by simp [Lib.compareBytes]
  | a :: ra, b :: bs => by
    rw [List.cons_lt_cons_iff, Lib.compareBytes]
    split
    · rename_i h
      exact ⟨fun _ => .inl h, fun _ => by decide⟩
    · rename_i h
      split
      · rename_i h2
        refine ⟨fun h3 => absurd h3 (by decide), fun h3 => ?_⟩
        rcases h3 with h3 | ⟨rfl, _⟩
        · exact absurd h3 h
        · exact absurd h2 h
      · rename_i h2
        rw [cmpB_lt0 ra bs]
        refine ⟨fun h3 => .inr ⟨?_, h3⟩, fun h3 => ?_⟩
        · exact UInt8.le_antisymm (UInt8.not_lt.1 h2) (UInt8.not_lt.1 h)
        · rcases h3 with h3 | ⟨_, h3⟩
          · exact absurd h3 h
          · exact h3
theorem cmpB_lt (a b : List UInt8) : decide (cmpB a b < 0) = decide (a < b) := decide_eq_decide.2 (cmpB_lt0 a b)
theorem ltOf_cfP (x y : Pr) : Go.Proofs.ltOf cfP x y = decide (x.1 < y.1) := by
  unfold Go.Proofs.ltOf cfP
  exact cmpB_lt _ _
theorem swoP : «Sort».SWO (Go.Proofs.ltOf cfP) where
  irrefl x := by rw [ltOf_cfP]; exact decide_eq_false (List.lt_irrefl _)
  trans x y z h1 h2 := by rw [ltOf_cfP] at *; exact decide_eq_true (List.lt_trans (of_decide_eq_true h1) (of_decide_eq_true h2))
  ntrans x y z h1 h2 := by
    rw [ltOf_cfP] at *
    exact decide_eq_false (List.not_lt.2 (List.le_trans (List.not_lt.1 (of_decide_eq_false h2)) (List.not_lt.1 (of_decide_eq_false h1))))
theorem cmpLaysP (blk off size : Nat) (w : World) : CmpLays Tryz.prog 105 #[] encP 6 cfP blk off size w :=
  fun _ _ _ _ x y => k_cmp x y _
theorem flatK_listP (d : Array Pr) : («Sort».flatK encP 6 d).toList = d.toList.flatMap encP := by
  apply List.ext_getElem?
  intro t
  by_cases ht : t < d.size * 6
  · have h1 : t / 6 < d.size := by omega
    have hlt : t % 6 < (encP d[t / 6]).length := by rw [encP_len]; omega
    have h2 := flat_get encP_len d.toList (t / 6) (t % 6) d[t / 6] ((encP d[t / 6])[t % 6]) (by simp [h1]) (List.getElem?_eq_getElem hlt)
    rw [show t / 6 * 6 + t % 6 = t by omega] at h2
    rw [h2]
    have h3 := «Sort».get_flatK encP 6 d t ht
    have hsz : t < («Sort».flatK encP 6 d).size := by rw [«Sort».size_flatK]; exact ht
    rw [getElem!_pos («Sort».flatK encP 6 d) t hsz, getElem!_pos d (t / 6) h1, getElem!_pos _ (t % 6) hlt] at h3
    rw [← h3]
    simp [hsz]
  · rw [List.getElem?_eq_none (by simp; omega), List.getElem?_eq_none (by rw [flat_len encP_len]; simp; omega)]
theorem f_sortP (g : GH) (b c : Nat) (l : List Pr) (rest : List Value) (hl : l.length ≤ 100000) :
    Tri Tryz.prog 104 [.slice (some ⟨b, 0, none⟩) l.length c, .func (.func 105) #[] #[]] g [⟨b, .cells (l.flatMap encP ++ rest) 118 (0, 0)⟩]
      fun v g' m' => ∃ l' : List Pr, v = .tuple #[] ∧ l'.Perm l ∧ (∀ (i j : Nat) (x y : Pr), i < j → l'[i]? = some x → l'[j]? = some y → decide (y.1 < x.1) = false) ∧ m' = [⟨b, .cells (l'.flatMap encP ++ rest) 118 (0, 0)⟩] := by
  intro w hw
  have hb : w.heap[b]? = some (.cells (l.flatMap encP ++ rest).toArray 118 (0, 0)) := hw.own ⟨b, _⟩ (List.mem_cons_self ..) _ rfl
  have hlt : b < w.heap.size := (Array.getElem?_eq_some_iff.1 hb).1
  have hfl : («Sort».flatK encP 6 l.toArray).toList = l.flatMap encP := flatK_listP l.toArray
  have hH : «Sort».HoldsK encP 6 w b 0 l.toArray := by
    intro j hj
    have h1 : (l.flatMap encP)[j]? = some («Sort».flatK encP 6 l.toArray)[j]! := by
      rw [← hfl, getElem!_pos («Sort».flatK encP 6 l.toArray) j hj]
      simp [hj]
    refine ⟨?_, ?_⟩
    · simp only [World.cell?, hb, Nat.zero_add, id]
      rw [List.getElem?_toArray, List.getElem?_append_left (List.getElem?_eq_some_iff.1 h1).1]
      exact h1
    · simp only [World.frozen?, hb]; simp
  have hcon := AnyQ.slices_SortFunc Tryz.sortP 6 (fun w => by kernel_rfl) (fun w => by kernel_rfl) encP encP_len encP_one cfP swoP 105 #[] b 0 c l.toArray w
    (fun args w => by kernel_rfl) (cmpLaysP b 0 l.toArray.size w) hH hlt (by simp; omega)
  refine hcon.mono ?_
  rintro e w' ⟨rfl, d', n, os, ⟨hp1, _, hp3⟩, hs, rfl⟩
  have hsz : d'.size = l.length := by simpa using hp1
  have hperm : d'.toList.Perm l := by
    have h1 : (d'.extract 0 l.toArray.size).toList = d'.toList := by
      rw [show l.toArray.size = d'.size by rw [hp1], Array.extract_size]
    have h2 : (l.toArray.extract 0 l.toArray.size).toList = l := by rw [Array.extract_size]
    rw [h1, h2] at hp3
    exact hp3
  have hF : («Sort».flatK encP 6 d').size ≤ (l.flatMap encP ++ rest).length := by
    rw [«Sort».size_flatK, List.length_append, flat_len encP_len, hsz]; omega
  obtain ⟨q1, q2⟩ := sort_has (n := n) (os := os) (F := «Sort».flatK encP 6 d') hw hF
  have hcs : («Sort».flatK encP 6 d').toList ++ (l.flatMap encP ++ rest).drop («Sort».flatK encP 6 d').size = d'.toList.flatMap encP ++ rest := by
    rw [flatK_listP, «Sort».size_flatK, hsz, ← flat_len encP_len l, List.drop_left' rfl]
  rw [hcs] at q1 q2
  refine ⟨_, g, _, rfl, ⟨d'.toList, rfl, hperm, ?_, rfl⟩, ?_, q1, q2⟩
  · intro i j x y hij hx hy
    obtain ⟨hi1, hi2⟩ := List.getElem?_eq_some_iff.1 hx
    obtain ⟨hj1, hj2⟩ := List.getElem?_eq_some_iff.1 hy
    have := hs i j (Nat.zero_le _) hij (by rw [← hp1]; simpa using hj1)
    rw [ltOf_cfP, getElem!_pos d' i (by simpa using hi1), getElem!_pos d' j (by simpa using hj1)] at this
    rw [← hi2, ← hj2]
    simpa using this
  · intro k s hk
    cases k with
    | zero => simp at hk; subst hk; exact ⟨_, rfl, rfl⟩
    | succ k => simp at hk
/-! ### one order only -/
theorem insK_perm (x : List UInt8 × T) : ∀ (l : List (List UInt8 × T)), (insK x l).Perm (x :: l)
  | [] => .refl _
  | y :: r => by
    rw [insK]
    split
    · exact .refl _
    · exact ((insK_perm x r).cons y).trans (.swap x y r)
theorem sortK_perm : ∀ (l : List (List UInt8 × T)), (sortK l).Perm l
  | [] => .refl _
  | x :: r => (insK_perm x (sortK r)).trans ((sortK_perm r).cons x)
def AscP {β : Type} (l : List (List UInt8 × β)) : Prop := l.Pairwise fun a b => a.1 < b.1
theorem lt_tri (a b : List UInt8) (h : a ≠ b) (h2 : ¬ a < b) : b < a := by
  apply Classical.byContradiction
  intro h3
  exact h (List.le_antisymm (List.not_lt.1 h3) (List.not_lt.1 h2))
theorem insK_asc (x : List UInt8 × T) : ∀ (l : List (List UInt8 × T)), AscP l → (∀ y ∈ l, y.1 ≠ x.1) → AscP (insK x l)
  | [], _, _ => List.pairwise_singleton _ _
  | y :: r, h, hx => by
    obtain ⟨h1, h2⟩ := List.pairwise_cons.1 h
    rw [insK]
    split
    · rename_i hlt
      refine List.pairwise_cons.2 ⟨fun z hz => ?_, h⟩
      rcases List.mem_cons.1 hz with rfl | hz
      · exact hlt
      · exact List.lt_trans hlt (h1 z hz)
    · rename_i hlt
      have hyx : y.1 < x.1 := lt_tri _ _ (fun e => hx y List.mem_cons_self e.symm) hlt
      refine List.pairwise_cons.2 ⟨fun z hz => ?_, insK_asc x r h2 fun z hz => hx z (List.mem_cons_of_mem _ hz)⟩
      rcases List.mem_cons.1 ((insK_perm x r).mem_iff.1 hz) with rfl | hz
      · exact hyx
      · exact h1 z hz
theorem sortK_asc : ∀ (l : List (List UInt8 × T)), (l.map Prod.fst).Nodup → AscP (sortK l)
  | [], _ => List.Pairwise.nil
  | x :: r, h => by
    rw [List.map_cons, List.nodup_cons] at h
    refine insK_asc x _ (sortK_asc r h.2) fun y hy e => h.1 ?_
    rw [← e]
    exact List.mem_map_of_mem ((sortK_perm r).mem_iff.1 hy)
theorem asc_unique {β : Type} : ∀ (l r : List (List UInt8 × β)), AscP l → AscP r → l.Perm r → l = r
  | [], r, _, _, hp => (List.nil_perm.1 hp).symm
  | x :: l, [], _, _, hp => absurd hp.symm (by simp)
  | x :: l, y :: r, h1, h2, hp => by
    obtain ⟨a1, a2⟩ := List.pairwise_cons.1 h1
    obtain ⟨b1, b2⟩ := List.pairwise_cons.1 h2
    have hxy : x = y := by
      rcases List.mem_cons.1 (hp.mem_iff.1 List.mem_cons_self) with h | h
      · exact h
      · rcases List.mem_cons.1 (hp.mem_iff.2 (List.mem_cons_self (a := y) (l := r))) with h' | h'
        · exact h'.symm
        · exact absurd (b1 x h) (List.lt_asymm (a1 y h'))
    subst hxy
    rw [asc_unique l r a2 b2 ((List.perm_cons x).1 hp)]
end Go.Proofs.YthkfnmmbjoadbaaGreatDoor
