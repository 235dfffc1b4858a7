/- WholeTimers: Items. -/
import Derived.Test.YtnkfpapegknlfaaTItems
import Derived.Shelf.SlSortCmp.NoneTotal
set_option linter.unusedVariables false
set_option linter.unusedSimpArgs false
set_option maxRecDepth 100000
namespace Go.Proofs.Ytnkfpapegknlfaa
open Go Go.SX

theorem f_cloneOwn (g : GH) (A : Option Addr) (c : Nat) (l : List Item) (s : Slot) (hO : OwnAt 29 2 Item.enc l s A c) (hl : l.length ≤ 100000) :
    Tri Try.prog 15 [.slice A l.length c] g [s] fun v g' m' => ∃ A' c' M, v = .slice A' l.length c' ∧ OwnRow 29 2 A' l.length c' (l.flatMap Item.enc) M ∧ m' = s :: M := by
  have hlen := flat_len Item.len l
  refine Tri.vc [.val (.slice A l.length c)] Try.func15 rfl Try.ntmps15 rfl rfl ?_
  cases hO with
  | nil b h0 =>
    subst h0
    conv => whnf
    refine ⟨fun _ => ?_, fun q => by cases q⟩
    conv => whnf
    exact .mk ⟨_, [0], _, rfl, by decide, rfl, ⟨rfl, trivial⟩, none, 0, [], rfl, .inl ⟨rfl, rfl, rfl, rfl⟩, rfl⟩
  | own b c rest h1 h2 =>
    conv => whnf
    refine ⟨(by intro q; cases q), fun _ => ?_⟩
    conv => whnf
    intro b2
    conv => whnf
    by_cases h0 : l = []
    · subst h0
      refine OOK.appendNone rfl rfl rfl rfl (.inl ⟨_, rfl⟩) rfl (size := 2) (bytes := 16) rfl rfl (Src.nil') ?_
      conv => whnf
      exact .mk ⟨_, [0], _, rfl, by decide, rfl, ⟨rfl, trivial⟩, _, 0, [], rfl, .inl ⟨rfl, rfl, rfl, rfl⟩, rfl⟩
    · have hpos : 0 < l.length := List.length_pos_iff.2 h0
      refine OOK.appendNew (old := []) (ys := l.flatMap Item.enc) (k := l.length) rfl rfl rfl rfl (.inl ⟨_, rfl⟩) rfl (size := 2) (bytes := 16) rfl rfl rfl (by decide) rfl Src.nil' rfl hlen (by omega) (Src.own (i := 0) (q := 0) rfl hlen (fun j v hj => by rw [Nat.zero_add, List.getElem?_append_left (List.getElem?_eq_some_iff.1 hj).1]; exact hj)) (by omega) ?_
      intro b' c' rest' hle hlc
      conv => whnf
      exact .mk ⟨_, [0, 2], _, rfl, by decide, rfl, ⟨rfl, trivial⟩, some ⟨b', 0, none⟩, c', _, by rw [Nat.zero_add]; rfl, .inr ⟨b', rest', rfl, rfl, hlen, by simpa using hlc, by omega⟩, rfl⟩
theorem f_sort0 (g : GH) (p : Option Addr) (c : Nat) (fv : Value) : Tri Try.prog 32 [.slice p 0 c, fv] g [] fun v g' m' => v = .tuple #[] ∧ m' = [] := by
  intro w hw
  refine (AnyF.slices_SortFunc_none Try.sortIt p c fv w).mono ?_
  rintro e w' ⟨rfl, rfl⟩
  exact ⟨_, g, [], rfl, ⟨rfl, rfl⟩, .refl _, hw, .refl _ _ _⟩
theorem f_items (g : GH) (b : Nat) (A : Option Addr) (c : Nat) (l r : List Item) (s : Slot) (hO : OwnAt 29 2 Item.enc l s A c) (hl : l.length ≤ 10000) (hp : l.Perm r) (hs : Sorted r) :
    Tri Try.prog 23 [.pointer (some ⟨b, 0, none⟩)] g [qBox b A l.length c, s] fun v g' m' => ∃ A2 c2, v = .slice A2 r.length c2 ∧ Row g' Item.enc A2 r ∧ m' = [qBox b A l.length c, s] := by
  refine Tri.vc [.own 0 0] Try.func23 rfl Try.ntmps23 rfl rfl ?_
  conv => whnf
  refine OOK.call [0] rfl rfl rfl (by kernel_rfl) rfl (f_ready g b A l.length c) (by decide) rfl ?_
  rintro v_ g1 m_ hg1 ⟨rfl, rfl⟩
  conv => whnf
  refine ⟨(by intro q; cases q), fun _ => ?_⟩
  conv => whnf
  refine OOK.call [1] rfl rfl rfl (by kernel_rfl) rfl (f_cloneOwn g1 A c l s hO (by omega)) (by decide) rfl ?_
  rintro v_ g2 m_ hg2 ⟨A', c', M, rfl, hR, rfl⟩
  rcases hR with ⟨h1, rfl, h3, rfl⟩ | ⟨b', rest, rfl, rfl, h1, h2, h3⟩
  · have hl0 : l = [] := List.length_eq_zero_iff.1 h1
    subst hl0
    have hr0 : r = [] := List.length_eq_zero_iff.1 (by rw [← hp.length_eq]; rfl)
    subst hr0
    conv => whnf
    refine OOK.call [] rfl rfl rfl (by kernel_rfl) rfl (f_sort0 g2 A' 0 _) (by decide) rfl ?_
    rintro v_ g3 m_ hg3 ⟨rfl, rfl⟩
    conv => whnf
    exact .mk ⟨_, [0, 1], _, rfl, by decide, rfl, ⟨rfl, rfl, trivial⟩, A', 0, rfl, fun h => absurd rfl h, rfl⟩
  · conv => whnf
    refine OOK.call [2] rfl rfl rfl (by kernel_rfl) rfl (f_sort g2 b' c' l rest (by omega)) (by decide) rfl ?_
    rintro v_ g3 m_ hg3 ⟨l', rfl, hp', hs', rfl⟩
    have hlr : l' = r := sorted_eq l' r (hp'.trans hp) hs hs'
    subst hlr
    conv => whnf
    refine .freeze 2 rfl rfl fun g4 hg4 hb4 => ?_
    refine .mk ⟨_, [0, 1], _, rfl, by decide, rfl, ⟨rfl, rfl, trivial⟩, some ⟨b', 0, none⟩, c', ?_, row_of (rest := rest) (el := 29) hb4, rfl⟩
    rw [← hp'.length_eq]; rfl
end Go.Proofs.Ytnkfpapegknlfaa
