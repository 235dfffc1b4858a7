/- WholeTimers: an item is taken out. -/
import Derived.Test.YtnkfpapegknlfaaTDown
set_option linter.unusedVariables false
set_option linter.unusedSimpArgs false
set_option maxRecDepth 100000
namespace Go.Proofs.Ytnkfpapegknlfaa
open Go Go.SX

def cut (l : List Item) (k : Nat) (y : Item) : List Item := (l.set k y).take (l.length - 1)
theorem cut_len (l : List Item) (k : Nat) (y : Item) : (cut l k y).length = l.length - 1 := by simp [cut]
theorem cut_get {l : List Item} {k : Nat} {y : Item} (hk : k < l.length - 1) (j : Nat) : (cut l k y)[j]? = if l.length - 1 ≤ j then none else if j = k then some y else l[j]? := by
  unfold cut
  rw [List.getElem?_take]
  by_cases h : j < l.length - 1
  · rw [if_pos h, if_neg (by omega)]
    by_cases e : j = k
    · subst e; rw [List.getElem?_set_self (by omega), if_pos rfl]
    · rw [List.getElem?_set_ne (Ne.symm e), if_neg e]
  · rw [if_neg h, if_pos (by omega)]
theorem split_last {l : List Item} {y : Item} (hy : l[l.length - 1]? = some y) : l = l.take (l.length - 1) ++ [y] := by
  have h := (List.getElem?_eq_some_iff.1 hy).1
  have h2 : l = l.take (l.length - 1) ++ l.drop (l.length - 1) := (List.take_append_drop _ _).symm
  have h3 : l.drop (l.length - 1) = [y] := by
    rw [List.drop_eq_getElem_cons h, List.drop_eq_nil_of_le (by omega), (List.getElem?_eq_some_iff.1 hy).2]
  rw [h3] at h2
  exact h2
theorem set_perm (a : Item) : ∀ (l : List Item) (k : Nat), k < l.length → (l.set k a).Perm (a :: l.eraseIdx k)
  | [], k, h => by simp at h
  | x :: r, 0, _ => by simp
  | x :: r, k + 1, h => by
    simp only [List.set_cons_succ, List.eraseIdx_cons_succ]
    exact ((set_perm a r k (by simpa using h)).cons x).trans (.swap a x _)
theorem cut_perm {l : List Item} {k : Nat} {y : Item} (hk : k < l.length) (hy : l[l.length - 1]? = some y) : (cut l k y).Perm (l.eraseIdx k) := by
  have hl := split_last hy
  have hlen : (l.take (l.length - 1)).length = l.length - 1 := by simp
  by_cases e : k = l.length - 1
  · have h1 : cut l k y = l.take (l.length - 1) := by
      unfold cut
      rw [List.take_set_of_le (by omega)]
    have h2 : l.eraseIdx k = l.take (l.length - 1) := by
      rw [List.eraseIdx_eq_take_drop_succ, List.drop_eq_nil_of_le (by omega), e, List.append_nil]
    rw [h1, h2]
  · have hk' : k < l.length - 1 := by omega
    have h1 : cut l k y = (l.take (l.length - 1)).set k y := by
      unfold cut; rw [List.take_set]
    have h2 : l.eraseIdx k = (l.take (l.length - 1)).eraseIdx k ++ [y] := by
      conv => lhs; rw [hl]
      rw [List.eraseIdx_append_of_lt_length (by omega)]
    rw [h1, h2]
    refine (set_perm y _ k (by omega)).trans ?_
    exact List.perm_append_comm (l₁ := [y])
theorem cut_old {l : List Item} {k : Nat} {y : Item} (hk : k < l.length - 1) {j : Nat} {x : Item} (hj : j ≠ k) (h : (cut l k y)[j]? = some x) : l[j]? = some x := by
  rw [cut_get hk] at h
  by_cases h1 : l.length - 1 ≤ j
  · rw [if_pos h1] at h; cases h
  · rw [if_neg h1, if_neg hj] at h; exact h
theorem cut_bk {l : List Item} {k : Nat} {y : Item} (h : HeapOk l) (hk : k < l.length - 1) : Bk (cut l k y) k := by
  constructor
  · intro j hj h1 h2 x p hx hp
    exact h j hj x p (cut_old hk h1 hx) (cut_old hk h2 hp)
  · intro h0 c x p hc hx hp
    exact (h.dn k).2 h0 c x p hc (cut_old hk (by omega) hx) (cut_old hk (by omega) hp)
theorem cut_end {l : List Item} {k : Nat} {y : Item} (h : HeapOk l) (hk : k = l.length - 1) (h0 : 0 < l.length) : HeapOk (cut l k y) := by
  have h1 : cut l k y = l.take (l.length - 1) := by unfold cut; rw [List.take_set_of_le (by omega)]
  rw [h1]
  intro j hj x p hx hp
  rw [List.getElem?_take] at hx hp
  split at hx
  · split at hp
    · exact h j hj x p hx hp
    · cases hp
  · cases hx

set_option maxHeartbeats 4000000 in
theorem f_remove (g : GH) (b hb : Nat) (c : Nat) (l : List Item) (rest : List Value) (k : Nat) (x : Item) (hx : l[k]? = some x) (hl : l.length ≤ 100000) (hc1 : (l.flatMap Item.enc ++ rest).length = c * 2) (hc2 : l.length ≤ c) (hh : HeapOk l) :
    Tri Try.prog 27 [.pointer (some ⟨b, 0, none⟩), .int .i64 k] g [qBox b (some ⟨hb, 0, none⟩) l.length c, ⟨hb, .cells (l.flatMap Item.enc ++ rest) 29 (0, 0)⟩] fun v g' m' =>
      v = .agg x.enc.toArray ∧ ∃ l' rest', l'.Perm (l.eraseIdx k) ∧ m' = [qBox b (some ⟨hb, 0, none⟩) l'.length c, ⟨hb, .cells (l'.flatMap Item.enc ++ rest') 29 (0, 0)⟩] ∧ HeapOk l' ∧ (l'.flatMap Item.enc ++ rest').length = c * 2 := by
  have hk := (List.getElem?_eq_some_iff.1 hx).1
  obtain ⟨y, hy⟩ : ∃ y, l[l.length - 1]? = some y := ⟨_, List.getElem?_eq_getElem (by omega)⟩
  have hlast : IntKind.i64.wrap ((l.length : Int) - 1) = ((l.length - 1 : Nat) : Int) := by rw [i64_in (by omega) (by omega)]; omega
  refine Tri.vc [.own 0 0, .val (.int .i64 k)] Try.func27 rfl Try.ntmps27 rfl rfl ?_
  conv => whnf
  intro b1
  conv => whnf
  refine ⟨⟨by omega, by omega⟩, ?_⟩
  conv => whnf
  refine OOK.yn (YN.loadsOwn (b := hb) (q := 0 + k * 2) (cs := x.enc) 1 rfl rfl rfl rfl (elt_get hx) ?_)
  conv => whnf
  intro b2
  conv => whnf
  rw [hlast]
  refine COK.drawL [11] [0] (by kernel_rfl) (by kernel_rfl) ?_
  conv => whnf
  refine ⟨⟨by omega, by omega⟩, ?_⟩
  conv => whnf
  refine OOK.yn (YN.loadsOwn (b := hb) (q := 0 + (l.length - 1) * 2) (cs := y.enc) 1 rfl rfl rfl rfl (elt_get hy) ?_)
  conv => whnf
  refine ⟨⟨rfl, rfl, rfl, rfl, trivial⟩, ?_⟩
  conv => whnf
  refine ⟨⟨by omega, by omega⟩, ?_⟩
  conv => whnf
  refine OOK.storeElt Item.len (k := k) (j := 0) (l := l) 1 y rfl rfl (v := .agg y.enc.toArray) rfl rfl rfl rfl rfl hx rfl (Nat.le_of_ble_eq_true rfl) ?_
  conv => whnf
  refine ⟨⟨rfl, rfl, rfl, rfl, trivial⟩, ?_⟩
  conv => whnf
  have hcut : ∃ rest2, (l.set k y).flatMap Item.enc ++ rest = (cut l k y).flatMap Item.enc ++ rest2 ∧ ((cut l k y).flatMap Item.enc ++ rest2).length = c * 2 := by
    refine ⟨((l.set k y).drop (l.length - 1)).flatMap Item.enc ++ rest, ?_, ?_⟩
    · unfold cut
      rw [← List.append_assoc, ← List.flatMap_append, List.take_append_drop]
    · unfold cut
      rw [← List.append_assoc, ← List.flatMap_append, List.take_append_drop]
      rw [List.length_append, flat_len Item.len] at hc1 ⊢
      rw [List.length_set]; exact hc1
  obtain ⟨rest2, hr2, hr3⟩ := hcut
  rw [hr2]
  have hcl := cut_len l k y
  have hsv : Value.slice (if c = 0 then some (⟨hb, 0, none⟩ : Addr) else Option.map (fun x => addN x (0 * 2)) (some ⟨hb, 0, none⟩)) (((l.length - 1 : Nat) : Int).toNat - 0) (c - 0) = Value.slice (some ⟨hb, 0, none⟩) (cut l k y).length c := by
    rw [if_neg (by omega), hcl]; rfl
  refine ⟨⟨by omega, by omega⟩, ?_⟩
  rw [hsv]
  conv => whnf
  intro b3
  conv => whnf
  refine ⟨fun q => ?_, fun q => ?_⟩
  rotate_left
  · have hkl : k = l.length - 1 := by have := of_decide_eq_false q; omega
    conv => whnf
    exact .mk ⟨_, [0, 1], _, rfl, by decide, rfl, ⟨rfl, rfl, trivial⟩, rfl, cut l k y, rest2, cut_perm hk hy, rfl, cut_end hh hkl (by omega), hr3⟩
  have hkl : k < l.length - 1 := by have := of_decide_eq_true q; omega
  conv => whnf
  refine COK.loop (α := Nat × List Item) (fun z => [(1, .val (.int .i64 k)), (4, .own 2 0), (5, .own 3 0), (53, .val (.slice (some ⟨b3, 0, none⟩) 2 2)), (54, .val (.int .i64 2)), (55, .val (.int .i64 z.1))])
    (fun z => [qBox b (some ⟨hb, 0, none⟩) z.2.length c, ⟨hb, .cells (z.2.flatMap Item.enc ++ rest2) 29 (0, 0)⟩, ⟨b1, .cells [.int .i64 0, .int .i64 0] 29 (0, 0)⟩, ⟨b2, .cells x.enc 29 (0, 0)⟩,
      ⟨b3, .cells [.func (.func 31) #[.pointer (some ⟨b, 0, none⟩)] #[], .func (.func 36) #[.pointer (some ⟨b, 0, none⟩)] #[]] 68 (0, 0)⟩])
    (fun z _ => z.2.Perm (cut l k y) ∧ ((z.1 = 0 ∧ z.2 = cut l k y) ∨ (z.1 = 1 ∧ Dn z.2 k) ∨ (z.1 = 2 ∧ HeapOk z.2))) (fun z => 2 - z.1) (0, cut l k y) [0, 1, 2, 3, 4] (Sub.of (by decide) rfl ⟨rfl, rfl, rfl, rfl, rfl, rfl, trivial⟩) ⟨.refl _, .inl ⟨rfl, rfl⟩⟩ ?_
  rintro ⟨j, l1⟩ g2 hg2 ⟨hp, hj⟩
  simp only at hp hj
  dsimp only
  have hlen1 : l1.length = l.length - 1 := by rw [hp.length_eq, hcl]
  refine vcC_ok _ _ _ _ _ ?_
  rcases hj with ⟨rfl, rfl⟩ | ⟨rfl, hd⟩ | ⟨rfl, hok⟩
  · conv => whnf
    refine ⟨fun _ => ?_, fun q => absurd q (by decide)⟩
    conv => whnf
    refine ⟨by decide, ?_⟩
    conv => whnf
    refine OOK.yn (YN.loadOwn (b := b3) (q := 0) (v := .func (.func 31) #[.pointer (some ⟨b, 0, none⟩)] #[]) 4 rfl rfl rfl rfl rfl ?_)
    conv => whnf
    refine OOK.call [0, 1] rfl rfl rfl (by kernel_rfl) rfl (f_up g2 b hb c (cut l k y) rest2 k (by omega) (by omega) hr3 (by omega) (.inr (cut_bk hh hkl))) (by decide) rfl ?_
    rintro v_ g3 m_ hg3 ⟨rfl, l2, hp2, rfl, hres⟩
    conv => whnf
    have hl2 := hp2.length_eq
    refine ⟨(1, l2), [0, 1, 2, 3, 4], Sub.of (by decide) (by simp only [hl2]; rfl) ⟨rfl, rfl, rfl, rfl, rfl, rfl, trivial⟩, ⟨hp2, .inr (.inl ⟨rfl, ?_⟩)⟩, by simp only; omega⟩
    rcases hres with h | ⟨rfl, h1, h2⟩
    · exact h.dn k
    · exact h1.dn h2
  · conv => whnf
    refine ⟨fun _ => ?_, fun q => absurd q (by decide)⟩
    conv => whnf
    refine ⟨by decide, ?_⟩
    conv => whnf
    refine OOK.yn (YN.loadOwn (b := b3) (q := 1) (v := .func (.func 36) #[.pointer (some ⟨b, 0, none⟩)] #[]) 4 rfl rfl rfl rfl rfl ?_)
    conv => whnf
    refine OOK.call [0, 1] rfl rfl rfl (by kernel_rfl) rfl (f_down g2 b hb c l1 rest2 k (by omega) (by omega) (by rw [List.length_append, flat_len Item.len] at hr3 ⊢; omega) (by omega) hd) (by decide) rfl ?_
    rintro v_ g3 m_ hg3 ⟨rfl, l2, hp2, rfl, hres⟩
    conv => whnf
    have hl2 := hp2.length_eq
    exact ⟨(2, l2), [0, 1, 2, 3, 4], Sub.of (by decide) (by simp only [hl2]; rfl) ⟨rfl, rfl, rfl, rfl, rfl, rfl, trivial⟩, ⟨hp2.trans hp, .inr (.inr ⟨rfl, hres⟩)⟩, by simp only; omega⟩
  · conv => whnf
    refine ⟨fun q => absurd q (by decide), fun _ => ?_⟩
    conv => whnf
    exact .mk ⟨_, [0, 1], _, rfl, by decide, rfl, ⟨rfl, rfl, trivial⟩, rfl, l1, rest2, hp.trans (cut_perm hk hy), rfl, hok, by rw [List.length_append, flat_len Item.len] at hr3 ⊢; omega⟩
end Go.Proofs.Ytnkfpapegknlfaa
