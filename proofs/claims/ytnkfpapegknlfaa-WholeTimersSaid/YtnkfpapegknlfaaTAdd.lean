/- WholeTimers: Add, Cancel, Pop. -/
import Derived.Test.YtnkfpapegknlfaaTRem
set_option linter.unusedVariables false
set_option linter.unusedSimpArgs false
set_option maxRecDepth 100000
namespace Go.Proofs.Ytnkfpapegknlfaa
open Go Go.SX

theorem add_up {l : List Item} (h : HeapOk l) (x : Item) : Up (l ++ [x]) l.length := by
  have old : ∀ {j : Nat} {y : Item}, j ≠ l.length → (l ++ [x])[j]? = some y → l[j]? = some y := fun {j y} hj hy => by
    have := (List.getElem?_eq_some_iff.1 hy).1
    simp at this
    rwa [List.getElem?_append_left (by omega)] at hy
  constructor
  · intro j hj hne y p hy hp
    have hj' := (List.getElem?_eq_some_iff.1 (old hne hy)).1
    exact h j hj y p (old hne hy) (old (by omega) hp)
  · intro h0 c y p hc hy hp
    have := (List.getElem?_eq_some_iff.1 hy).1
    simp at this
    omega
set_option maxHeartbeats 4000000 in
theorem f_add (g : GH) (b : Nat) (A : Option Addr) (c : Nat) (l : List Item) (s : Slot) (x : Item) (hO : OwnAt 29 2 Item.enc l s A c) (hl : l.length ≤ 10000) (hh : HeapOk l) :
    Tri Try.prog 20 [.pointer (some ⟨b, 0, none⟩), .agg x.enc.toArray] g [qBox b A l.length c, s] fun v g' m' =>
      (l.any (·.id == x.id) = true ∧ v = .int .i64 9 ∧ m' = [qBox b A l.length c, s]) ∨
      (l.any (·.id == x.id) = false ∧ v = .int .i64 0 ∧ ∃ d s' A' c' l', m' = [qBox b A' l'.length c', ⟨d, .dead⟩, s'] ∧ OwnAt 29 2 Item.enc l' s' A' c' ∧ l'.Perm (l ++ [x]) ∧ HeapOk l') := by
  refine Tri.vc [.own 0 0, .val (.agg x.enc.toArray)] Try.func20 rfl Try.ntmps20 rfl rfl ?_
  conv => whnf
  intro b1
  conv => whnf
  refine OOK.call [0] rfl rfl rfl (by kernel_rfl) rfl (f_ready g b A l.length c) (by decide) rfl ?_
  rintro v_ g1 m_ hg1 ⟨rfl, rfl⟩
  conv => whnf
  refine ⟨(by intro q; cases q), fun _ => ?_⟩
  conv => whnf
  refine OOK.call [0, 1] rfl rfl rfl (by kernel_rfl) rfl (f_find g1 b A c l s x.id hO (by omega)) (by decide) rfl ?_
  rintro v_ g2 m_ hg2 ⟨rfl, hv⟩
  rcases hv with ⟨k, hk, rfl⟩ | ⟨hk, rfl⟩
  · have hany : l.any (·.id == x.id) = true := by
      obtain ⟨h1, h2, _⟩ := List.findIdx?_eq_some_iff_getElem.1 hk
      exact List.any_eq_true.2 ⟨_, List.getElem_mem h1, h2⟩
    conv => whnf
    refine ⟨fun _ => ?_, fun q => absurd (of_decide_eq_false q) (by omega)⟩
    conv => whnf
    exact .mk ⟨_, [0, 1], _, rfl, by decide, rfl, ⟨rfl, rfl, trivial⟩, .inl ⟨hany, rfl, rfl⟩⟩
  · have hany : l.any (·.id == x.id) = false := by
      rw [List.findIdx?_eq_none_iff] at hk
      exact List.any_eq_false.2 fun y hy => by simp [hk y hy]
    conv => whnf
    refine ⟨fun q => absurd (of_decide_eq_true q) (by omega), fun _ => ?_⟩
    conv => whnf
    refine COK.draw [2] (by kernel_rfl) (by kernel_rfl) ?_
    conv => whnf
    refine ⟨?_, ?_⟩
    · conv => whnf
      refine ⟨⟨rfl, rfl, rfl, trivial⟩, ?_⟩
      conv => whnf
      intro b2
      conv => whnf
      refine ⟨⟨rfl, rfl, rfl, trivial⟩, ?_⟩
      conv => whnf
      refine OOK.appendRowB x 1 Item.len rfl rfl rfl rfl (.inl ⟨_, rfl⟩) rfl (size := 2) (bytes := 16) rfl rfl rfl (by decide) rfl rfl hO
        (Src.own (i := 3) (q := 0) (cs := x.enc) (t := 29) (fr := (0, 0)) rfl rfl (fun j v hj => by simpa using hj)) (Item.one _) (by omega) ?_
      intro s' A' c' hO'
      conv => whnf
      refine ⟨⟨rfl, rfl, rfl, trivial⟩, ?_⟩
      conv => whnf
      refine ⟨⟨rfl, rfl, rfl, trivial⟩, ?_⟩
      conv => whnf
      have hle : IntKind.i64.wrap (((l.length + 1 : Nat) : Int) - 1) = (l.length : Int) := by rw [i64_in (by omega) (by omega)]; omega
      have hla : l.length + 1 = (l ++ [x]).length := by simp
      rw [hle, hla]
      rcases hO' with ⟨bd, h0⟩ | ⟨b', c', rest', h1, h2⟩
      · simp at h0
      refine OOK.call [0, 4] rfl rfl rfl (by kernel_rfl) rfl (f_up g2 b b' c' (l ++ [x]) rest' l.length (by omega) (by omega) h1 h2 (.inl (add_up hh x))) (by decide) rfl ?_
      rintro v_ g3 m_ hg3 ⟨rfl, l', hp, rfl, hres⟩
      conv => whnf
      have hll := hp.length_eq
      refine .mk ⟨_, [0, 1, 4], _, rfl, by decide, rfl, ⟨rfl, rfl, trivial⟩, .inr ⟨hany, rfl, s.b, ⟨b', .cells (l'.flatMap Item.enc ++ rest') 29 (0, 0)⟩, some ⟨b', 0, none⟩, c', l', by rw [hll], .own b' c' rest' (by rw [List.length_append, flat_len Item.len] at h1 ⊢; omega) (by omega), hp, ?_⟩⟩
      rcases hres with h | ⟨rfl, h3, h4⟩
      · exact h
      · exact (add_up hh x).heap h4
    · conv => whnf
      intro b2
      conv => whnf
      refine ⟨⟨rfl, rfl, rfl, trivial⟩, ?_⟩
      conv => whnf
      refine ⟨⟨rfl, rfl, rfl, trivial⟩, ?_⟩
      conv => whnf
      refine OOK.appendRowB x 1 Item.len rfl rfl rfl rfl (.inl ⟨_, rfl⟩) rfl (size := 2) (bytes := 16) rfl rfl rfl (by decide) rfl rfl hO
        (Src.own (i := 3) (q := 0) (cs := x.enc) (t := 29) (fr := (0, 0)) rfl rfl (fun j v hj => by simpa using hj)) (Item.one _) (by omega) ?_
      intro s' A' c' hO'
      conv => whnf
      refine ⟨⟨rfl, rfl, rfl, trivial⟩, ?_⟩
      conv => whnf
      refine ⟨⟨rfl, rfl, rfl, trivial⟩, ?_⟩
      conv => whnf
      have hle : IntKind.i64.wrap (((l.length + 1 : Nat) : Int) - 1) = (l.length : Int) := by rw [i64_in (by omega) (by omega)]; omega
      have hla : l.length + 1 = (l ++ [x]).length := by simp
      rw [hle, hla]
      rcases hO' with ⟨bd, h0⟩ | ⟨b', c', rest', h1, h2⟩
      · simp at h0
      refine OOK.call [0, 4] rfl rfl rfl (by kernel_rfl) rfl (f_up g2 b b' c' (l ++ [x]) rest' l.length (by omega) (by omega) h1 h2 (.inl (add_up hh x))) (by decide) rfl ?_
      rintro v_ g3 m_ hg3 ⟨rfl, l', hp, rfl, hres⟩
      conv => whnf
      have hll := hp.length_eq
      refine .mk ⟨_, [0, 1, 4], _, rfl, by decide, rfl, ⟨rfl, rfl, trivial⟩, .inr ⟨hany, rfl, s.b, ⟨b', .cells (l'.flatMap Item.enc ++ rest') 29 (0, 0)⟩, some ⟨b', 0, none⟩, c', l', by rw [hll], .own b' c' rest' (by rw [List.length_append, flat_len Item.len] at h1 ⊢; omega) (by omega), hp, ?_⟩⟩
      rcases hres with h | ⟨rfl, h3, h4⟩
      · exact h
      · exact (add_up hh x).heap h4

theorem f_cancel (g : GH) (b : Nat) (A : Option Addr) (c : Nat) (l : List Item) (s : Slot) (id : Int) (hO : OwnAt 29 2 Item.enc l s A c) (hl : l.length ≤ 10000) (hh : HeapOk l) :
    Tri Try.prog 16 [.pointer (some ⟨b, 0, none⟩), .int .i64 id] g [qBox b A l.length c, s] fun v g' m' =>
      (l.findIdx? (·.id == id) = none ∧ v = .bool false ∧ m' = [qBox b A l.length c, s]) ∨
      (∃ k s' l', l.findIdx? (·.id == id) = some k ∧ v = .bool true ∧ m' = [qBox b A l'.length c, s'] ∧ OwnAt 29 2 Item.enc l' s' A c ∧ l'.Perm (l.eraseIdx k) ∧ HeapOk l') := by
  refine Tri.vc [.own 0 0, .val (.int .i64 id)] Try.func16 rfl Try.ntmps16 rfl rfl ?_
  conv => whnf
  refine OOK.call [0] rfl rfl rfl (by kernel_rfl) rfl (f_ready g b A l.length c) (by decide) rfl ?_
  rintro v_ g1 m_ hg1 ⟨rfl, rfl⟩
  conv => whnf
  refine ⟨(by intro q; cases q), fun _ => ?_⟩
  conv => whnf
  refine OOK.call [0, 1] rfl rfl rfl (by kernel_rfl) rfl (f_find g1 b A c l s id hO (by omega)) (by decide) rfl ?_
  rintro v_ g2 m_ hg2 ⟨rfl, hv⟩
  rcases hv with ⟨k, hk, rfl⟩ | ⟨hk, rfl⟩
  · have hkl := findIdx_lt hk
    obtain ⟨x, hx⟩ : ∃ x, l[k]? = some x := ⟨_, List.getElem?_eq_getElem hkl⟩
    obtain ⟨hb, rest, rfl, rfl, h1, h2⟩ := hO.live hkl
    conv => whnf
    refine ⟨fun q => absurd (of_decide_eq_true q) (by omega), fun _ => ?_⟩
    conv => whnf
    refine OOK.call [0, 1] rfl rfl rfl (by kernel_rfl) rfl (f_remove g2 b hb c l rest k x hx (by omega) h1 h2 hh) (by decide) rfl ?_
    rintro v_ g3 m_ hg3 ⟨rfl, l', rest', hp, rfl, hok, h3⟩
    have hll := hp.length_eq
    have hel := List.length_eraseIdx_of_lt hkl
    conv => whnf
    exact .mk ⟨_, [0, 1], _, rfl, by decide, rfl, ⟨rfl, rfl, trivial⟩, .inr ⟨k, _, l', hk, rfl, rfl, .own hb c rest' h3 (by omega), hp, hok⟩⟩
  · conv => whnf
    refine ⟨fun _ => ?_, fun q => absurd (of_decide_eq_false q) (by omega)⟩
    conv => whnf
    exact .mk ⟨_, [0, 1], _, rfl, by decide, rfl, ⟨rfl, rfl, trivial⟩, .inl ⟨hk, rfl, rfl⟩⟩
end Go.Proofs.Ytnkfpapegknlfaa
