/- WholeTimers: Pop. -/
import Derived.Test.YtnkfpapegknlfaaTSort
set_option linter.unusedVariables false
set_option linter.unusedSimpArgs false
set_option maxRecDepth 100000
namespace Go.Proofs.Ytnkfpapegknlfaa
open Go Go.SX

structure Pst where
  i : Nat
  l : List Item
  s : Slot
  so : Slot
  A : Option Addr
  c : Nat
set_option maxHeartbeats 4000000 in
theorem f_pop (g : GH) (b : Nat) (A : Option Addr) (c : Nat) (l r : List Item) (s : Slot) (now : Int) (hO : OwnAt 29 2 Item.enc l s A c) (hl : l.length ≤ 10000) (hh : HeapOk l) (hp : l.Perm r) (hs : Sorted r) :
    Tri Try.prog 13 [.pointer (some ⟨b, 0, none⟩), .int .i64 now] g [qBox b A l.length c, s] fun v g' m' =>
      ∃ s' l' A2 c2 i, m' = [qBox b A l'.length c, s'] ∧ OwnAt 29 2 Item.enc l' s' A c ∧ HeapOk l' ∧ l'.Perm (r.drop i) ∧ v = .slice A2 (r.take i).length c2 ∧ Row g' Item.enc A2 (r.take i) ∧ (∀ x ∈ r.take i, x.due ≤ now) ∧ (∀ x, r[i]? = some x → now < x.due) ∧ i ≤ r.length := by
  refine Tri.vc [.own 0 0, .val (.int .i64 now)] Try.func13 rfl Try.ntmps13 rfl rfl ?_
  conv => whnf
  refine COK.dummy 0 ?_
  refine COK.loop (α := Pst) (fun x => [(0, .own 0 0), (1, .val (.int .i64 now)), (5, .val (.slice x.A (r.take x.i).length x.c))]) (fun x => [qBox b A x.l.length c, x.s, x.so])
    (fun x _ => OwnAt 29 2 Item.enc x.l x.s A c ∧ OwnAt 29 2 Item.enc (r.take x.i) x.so x.A x.c ∧ HeapOk x.l ∧ x.l.Perm (r.drop x.i) ∧ x.i ≤ r.length ∧ (∀ y ∈ r.take x.i, y.due ≤ now) ∧ x.s.b = s.b) (fun x => x.l.length)
    ⟨0, l, s, ⟨0, .dead⟩, none, 0⟩ [0, 1, 2] (Sub.of (by decide) rfl ⟨rfl, rfl, rfl, trivial⟩) ⟨hO, .nil _ rfl, hh, hp, Nat.zero_le _, by simp, rfl⟩ ?_
  rintro ⟨i, l1, s1, so, Ao, co⟩ g1 hg1 ⟨hO1, hOo, hh1, hp1, hi, hdue, hsb⟩
  simp only at hO1 hOo hh1 hp1 hi hdue hsb
  dsimp only
  have hlen1 := hp1.length_eq
  have hlen := hp.length_eq
  rw [List.length_drop] at hlen1
  refine vcC_ok _ _ _ _ _ ?_
  conv => whnf
  refine OOK.call [0] rfl rfl rfl (by kernel_rfl) rfl (f_ready g1 b A l1.length c) (by decide) rfl ?_
  rintro v_ g2 m_ hg2 ⟨rfl, rfl⟩
  conv => whnf
  refine ⟨fun _ => ?_, (by intro q; cases q)⟩
  conv => whnf
  refine ⟨fun q => ?_, fun q => ?_⟩
  · have hpos : 0 < l1.length := by have := of_decide_eq_true q; omega
    obtain ⟨x, hx⟩ : ∃ x, l1[0]? = some x := ⟨_, List.getElem?_eq_getElem hpos⟩
    obtain ⟨hb, rest, rfl, rfl, h1, h2⟩ := hO1.live hpos
    have hri : r[i]? = some x := by
      obtain ⟨y, hy⟩ : ∃ y, r[i]? = some y := ⟨_, List.getElem?_eq_getElem (by omega)⟩
      have hd0 : (r.drop i)[0]? = some y := by rw [List.getElem?_drop]; simpa using hy
      have := head_eq hh1 hp1 (List.Pairwise.drop hs) hx hd0
      rw [this]; exact hy
    have hdrop : r.drop i = x :: r.drop (i + 1) := by
      obtain ⟨h3, h4⟩ := List.getElem?_eq_some_iff.1 hri
      rw [List.drop_eq_getElem_cons h3, h4]
    have htake : r.take (i + 1) = r.take i ++ [x] := by rw [List.take_add_one, hri]; rfl
    conv => whnf
    refine ⟨⟨by omega, by omega⟩, ?_⟩
    conv => whnf
    refine OOK.yn (YN.loadOwn (b := hb) (q := 0 + 0 * 2 + 0) (v := .int .i64 x.due) 1 rfl rfl rfl rfl (elt_get hx 0 _ rfl) ?_)
    conv => whnf
    refine ⟨fun q2 => ?_, fun q2 => ?_⟩
    · conv => whnf
      refine OOK.call [0, 1] rfl rfl rfl (by kernel_rfl) rfl (f_remove g2 b hb c l1 rest 0 x hx (by omega) h1 h2 hh1) (by decide) rfl ?_
      rintro v_ g3 m_ hg3 ⟨rfl, l2, rest', hp2, rfl, hok, h3⟩
      have hel := List.length_eraseIdx_of_lt hpos
      have htl : (2 * ((r.take i).length + 1) + 1000) * 16 ≤ 281474976710656 := by
        rw [List.length_take]; omega
      have hll := hp2.length_eq
      have hpr : l2.Perm (r.drop (i + 1)) := hp2.trans (perm_tail (by rw [← hdrop]; exact hp1) hx)
      conv => whnf
      intro b3
      conv => whnf
      refine OOK.appendRowB x 2 Item.len rfl rfl rfl rfl (.inl ⟨_, rfl⟩) rfl (size := 2) (bytes := 16) rfl rfl rfl (by decide) rfl rfl hOo
        (Src.own (i := 3) (q := 0) (cs := x.enc) (t := 29) (fr := (0, 0)) rfl rfl (fun j v hj => by simpa using hj)) (Item.one _) htl ?_
      intro s' A' c' hO'
      conv => whnf
      have hi1 : i < r.length := by omega
      refine ⟨⟨i + 1, l2, _, s', A', c'⟩, [0, 1, 4], Sub.of (by decide) rfl ⟨rfl, rfl, ?_, trivial⟩, ⟨.own hb c rest' h3 (by simp only; omega), by simp only [htake]; exact hO', hok, hpr, hi1, ?_, hsb⟩, by simp only; omega⟩
      · show Value.slice _ _ _ = Value.slice _ _ _
        simp only [htake, List.length_append]; rfl
      · intro y hy
        simp only [htake] at hy
        rcases List.mem_append.1 hy with hy | hy
        · exact hdue y hy
        · obtain rfl := List.mem_singleton.1 hy
          exact of_decide_eq_true q2
    · have hfin : ∀ z, r[i]? = some z → now < z.due := fun z hz => by
        rw [hri] at hz
        obtain rfl := Option.some.inj hz
        have := of_decide_eq_false q2
        omega
      conv => whnf
      rcases hOo with ⟨bd, h0⟩ | ⟨bo, co', resto, k1, k2⟩
      · exact .mk ⟨_, [0, 1], _, rfl, by decide, rfl, ⟨rfl, hsb, trivial⟩, _, l1, none, 0, i, rfl, .own hb c rest h1 h2, hh1, hp1, rfl, fun h => absurd h0 h, hdue, hfin, hi⟩
      · refine .freeze 2 rfl rfl fun g4 hg4 hb4 => ?_
        exact .mk ⟨_, [0, 1], _, rfl, by decide, rfl, ⟨rfl, hsb, trivial⟩, _, l1, _, _, i, rfl, .own hb c rest h1 h2, hh1, hp1, rfl, row_of hb4, hdue, hfin, hi⟩
  · have h0 : l1.length = 0 := by have := of_decide_eq_false q; omega
    have hfin : ∀ x, r[i]? = some x → now < x.due := fun x hx => by
      have := (List.getElem?_eq_some_iff.1 hx).1
      omega
    conv => whnf
    rcases hOo with ⟨bd, h0⟩ | ⟨bo, co', resto, k1, k2⟩
    · exact .mk ⟨_, [0, 1], _, rfl, by decide, rfl, ⟨rfl, hsb, trivial⟩, _, l1, none, 0, i, rfl, hO1, hh1, hp1, rfl, fun h => absurd h0 h, hdue, hfin, hi⟩
    · refine .freeze 2 rfl rfl fun g4 hg4 hb4 => ?_
      exact .mk ⟨_, [0, 1], _, rfl, by decide, rfl, ⟨rfl, hsb, trivial⟩, _, l1, _, _, i, rfl, hO1, hh1, hp1, rfl, row_of hb4, hdue, hfin, hi⟩
end Go.Proofs.Ytnkfpapegknlfaa
