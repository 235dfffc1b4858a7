/- WholeStores: the names of the files. -/
import Derived.Test.YtkkefknmahnjnaaSBytes
import Derived.Test.YtkkefknmahnjnaaSLays
set_option linter.unusedVariables false
set_option linter.unusedSimpArgs false
set_option maxRecDepth 100000
namespace Go.Proofs.Ytkkefknmahnjnaa
open Go Go.SX Go.Shelf Go.RowKit Go.Maps Go.WideElems

def kLog : ByteArray := ⟨#[108, 111, 103]⟩
def kNew : ByteArray := ⟨#[108, 111, 103, 46, 110, 101, 119]⟩
def encS (s : ByteArray) : List Value := [.string s]
theorem encS_len (s : ByteArray) : (encS s).length = 1 := rfl
def Shape (fs : List FE) : Prop := fs = [] ∨ (∃ f n, fs = [⟨kLog, f, n⟩]) ∨ ∃ f n f' n', n ≠ n' ∧ fs = [⟨kLog, f, n⟩, ⟨kNew, f', n'⟩]
theorem sorts (m : Nat) : AnyZ.SortsIn Try.prog Try.sortedIt_ren Fence.wide m :=
  ⟨fun blk off cap ss W hH hblk hsz => callsIn_wide.2 (AnyM.slices_Sort_string Try.sortStr blk off cap ss W hH hblk hsz),
   fun p cap W => callsIn_wide.2 (AnyM.slices_Sort_string_none Try.sortStr p cap W)⟩
def rdU (v : Value) : Option (DataW Unit × List MemPlace) := some (.nil, [])
noncomputable def D0 (fs : List FE) : DataW Unit := .map (((fs.map FE.ent).toArray.toList.map (rg Try.prog 9 rdU)).foldr DataW.insert [])
theorem keys_D0 (fs : List FE) (h : Shape fs) : (Go.strKeys (D0 fs)).Perm (fs.map fun e => e.k.data.toList) ∧ Maps.size (D0 fs) ≤ 2 := by
  rcases h with rfl | ⟨f, n, rfl⟩ | ⟨f, n, f', n', _, rfl⟩
  · exact ⟨.refl _, by decide⟩
  · have : D0 [⟨kLog, f, n⟩] = .map [(.string kLog.data.toList, .nil)] := by kernel_rfl
    rw [this]
    exact ⟨.refl _, by decide⟩
  · have : D0 [⟨kLog, f, n⟩, ⟨kNew, f', n'⟩] = .map [(.string kLog.data.toList, .nil), (.string kNew.data.toList, .nil)] := by kernel_rfl
    rw [this]
    exact ⟨.refl _, by decide⟩
theorem _root_.Go.SX.Has.below {w w' : World} {g : GH} {m : Mem} (h : Has w g m) (hB : Go.RowKit.Below w.heap.size w w') : Has w' g m ∧ Fr w m g w' m g := by
  have hlt : ∀ {b : Nat} {o : Obj}, w.heap[b]? = some o → w'.heap[b]? = some o := fun hb => by
    rw [hB.block _ (Array.getElem?_eq_some_iff.1 hb).1]; exact hb
  exact ⟨⟨fun b o hb => hlt (h.sub b o hb), fun s hs o ho => hlt (h.own s hs o ho), h.inj, h.apart⟩,
    ⟨hB.os, hB.tape, hB.output, hB.size, .refl _, fun b hb _ => hB.block b hb, fun _ _ _ => rfl, fun _ _ h => h⟩⟩
theorem _root_.Go.SX.Has.known {w w' : World} {g : GH} {m : Mem} (h : Has w g m) (hB : Go.RowKit.Below w.heap.size w w') {gb : Nat} {ob : Obj} (hge : w.heap.size ≤ gb) (hb : w'.heap[gb]? = some ob) :
    Has w' (fun b => if b = gb then some ob else g b) m ∧ Fr w m g w' m (fun b => if b = gb then some ob else g b) := by
  obtain ⟨h1, h2⟩ := h.below hB
  have hne : ∀ {b : Nat}, b < w.heap.size → ¬ (b = gb) := fun hlt e => by omega
  refine ⟨⟨fun b o hbo => ?_, h1.own, h1.inj, fun b hbm => ?_⟩, ⟨h2.os, h2.tape, h2.output, h2.size, fun b o hbo => ?_, h2.keep, fun b hlt _ => if_neg (hne hlt), fun _ _ h => h⟩⟩
  · by_cases e : b = gb
    · subst e
      rw [if_pos rfl] at hbo
      rw [hb]; exact hbo
    · rw [if_neg e] at hbo
      exact h1.sub b o hbo
  · have hlt := h.lt hbm
    rw [if_neg (hne hlt)]
    exact h.apart b hbm
  · have hlt := (Array.getElem?_eq_some_iff.1 (h.sub b o hbo)).1
    show (if b = gb then some ob else g b) = some o
    rw [if_neg (hne hlt)]; exact hbo
theorem f_sorted (g : GH) (mb kb : Nat) (d : Dk) (h : Shape d.fs) (hclk : ∀ e ∈ d.fs, e.n < d.clock) :
    Tri Try.prog 47 [.func (.func 65) #[] #[.pointer (some ⟨kb, 0, none⟩)]] g [mBox mb d, ⟨kb, .cells [.map (some mb)] 47 (0, 0)⟩] fun v g' m' => m' = [mBox mb d, ⟨kb, .cells [.map (some mb)] 47 (0, 0)⟩] ∧ ∃ A c, v = .slice A (d.fs.map FE.k).length c ∧ Row g' encS A (d.fs.map FE.k) := by
  intro w hw
  have hm := hw.own (mBox mb d) List.mem_cons_self _ rfl
  have hk := hw.own ⟨kb, .cells [.map (some mb)] 47 (0, 0)⟩ (List.mem_cons_of_mem _ List.mem_cons_self) _ rfl
  have hklt : kb < w.heap.size := (Array.getElem?_eq_some_iff.1 hk).1
  obtain ⟨hp, hsz⟩ := keys_D0 d.fs h
  have hown : w.ownsMap Try.prog 9 rdU mb 2 (D0 d.fs) := by
    have hml : maxLen = 9223372036854775807 := rfl
    have hst : MapKept.Stamped (d.fs.map FE.ent).toArray d.clock := by
      rw [MapKept.stamped_iff]
      refine ⟨fun x hx => ?_, ?_, ?_⟩
      · simp only [List.mem_map] at hx
        obtain ⟨e, he, rfl⟩ := hx
        exact hclk e he
      · rcases h with h | ⟨f, n, h⟩ | ⟨f, n, f', n', hne, h⟩ <;> rw [h] <;> simp [FE.ent]
        exact hne
      · rcases h with h | ⟨f, n, h⟩ | ⟨f, n, f', n', hne, h⟩ <;> rw [h] <;> simp [FE.ent]
        decide
    have hrd : ∀ x ∈ (d.fs.map FE.ent).toArray.toList, ∃ y, rd Try.prog 9 rdU x = some y := by
      intro x hx
      simp only [List.mem_map] at hx
      obtain ⟨e, he, rfl⟩ := hx
      rcases h with h | ⟨f, n, h⟩ | ⟨f, n, f', n', hne, h⟩ <;> rw [h] at he
      · simp at he
      · obtain rfl := List.mem_singleton.1 he
        exact ⟨(.string kLog.data.toList, .nil), by kernel_rfl⟩
      · rcases List.mem_cons.1 he with rfl | he
        · exact ⟨(.string kLog.data.toList, .nil), by kernel_rfl⟩
        · obtain rfl := List.mem_singleton.1 he
          exact ⟨(.string kNew.data.toList, .nil), by kernel_rfl⟩
    have hl2 : (d.fs.map FE.ent).toArray.size ≤ 2 := by
      rcases h with h | ⟨f, n, h⟩ | ⟨f, n, f', n', hne, h⟩ <;> rw [h] <;> simp
    exact ⟨(d.fs.map FE.ent).toArray, d.clock, hm, ⟨by omega, hst, hrd⟩, hl2, rfl⟩
  have hseq : SeqGives Fence.wide 2 Try.prog 65 #[.pointer (some ⟨kb, 0, none⟩)] encStr (fun ss => ss.Perm (Go.strKeys (D0 d.fs))) (Maps.size (D0 d.fs)) w :=
    AnyZ.keys_gives (ρ := Try.keysIt_ren) { Try.keysIt with } Fence.wide _ trivial rfl (by omega) kb mb 2 (D0 d.fs) w hklt (by simp only [World.cell?]; rw [hk]; rfl) hown
  have hcon := AnyZ.sorted_in Try.sortedIt Fence.wide 5 trivial trivial trivial trivial rfl (by omega) (sorts _) (enters_of Try.func64 (by kernel_rfl) rfl) 65 #[.pointer (some ⟨kb, 0, none⟩)] trivial (enters_of Try.func65 (by kernel_rfl) rfl) _ _ (by have : maxLen = 9223372036854775807 := rfl; omega) (by omega) w hseq
  refine (callsIn_wide.1 hcon).mono ?_
  rintro e w' ⟨v, ss, rfl, hS, hrow, hnil, hB⟩
  have hperm : ss.Perm (d.fs.map fun e => e.k.data.toList) := hS.trans hp
  have hms : ss.mergeSort (fun x y => decide (x ≤ y)) = d.fs.map fun e => e.k.data.toList := by
    have h1 := mergeSort_of_perm hperm
    refine h1.trans (List.mergeSort_of_pairwise ?_)
    have hle : leB kLog.data.toList kNew.data.toList = true := by decide
    rcases h with h | ⟨f, n, h⟩ | ⟨f, n, f', n', hne, h⟩ <;> rw [h]
    · exact .nil
    · exact List.pairwise_singleton _ _
    · refine List.pairwise_cons.2 ⟨fun x hx => ?_, List.pairwise_singleton _ _⟩
      obtain rfl := List.mem_singleton.1 hx
      exact hle
  have hlen : ss.length = (d.fs.map FE.k).length := by rw [hperm.length_eq]; simp
  have henc : (d.fs.map fun e => e.k.data.toList).map encStr = (d.fs.map FE.k).flatMap encS := by
    rw [List.map_map]
    induction d.fs with
    | nil => rfl
    | cons e r ih => simp only [List.map_cons, List.flatMap_cons, ih]; rfl
  rw [hms, henc] at hrow
  obtain ⟨hx1, hr⟩ := hrow
  rcases hr with ⟨rfl, hz⟩ | ⟨gb, cap, cur, rfl, hge, hgb, hcap, hcap2, hcs, hcur⟩
  · obtain ⟨q1, q2⟩ := hw.below hB
    refine ⟨_, g, _, rfl, ⟨rfl, Option.none, 0, by rw [← hlen, hz], fun hne => absurd (List.length_eq_zero_iff.1 (by rw [← hlen, hz])) hne⟩, .refl _, q1, q2⟩
  · obtain ⟨q1, q2⟩ := Has.known hw hB hge hgb
    refine ⟨_, _, _, rfl, ⟨rfl, some ⟨gb, 0, Option.none⟩, cap, by rw [← hlen], ?_⟩, .refl _, q1, q2⟩
    have hcl : cur.toList = (d.fs.map FE.k).flatMap encS ++ cur.toList.drop (ss.length * 1) := by rw [← hcur, List.take_append_drop]
    refine row_of (rest := cur.toList.drop (ss.length * 1)) (el := 9) ?_
    rw [← hcl]
    simp
    rfl
end Go.Proofs.Ytkkefknmahnjnaa
