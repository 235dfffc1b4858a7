/- WholeTimers: an item goes down. -/
import Derived.Test.YtnkfpapegknlfaaTUp
set_option linter.unusedVariables false
set_option linter.unusedSimpArgs false
set_option maxRecDepth 100000
namespace Go.Proofs.Ytnkfpapegknlfaa
open Go Go.SX

set_option maxHeartbeats 4000000 in
theorem f_down (g : GH) (b hb : Nat) (c : Nat) (l : List Item) (rest : List Value) (k : Nat) (hk : k < l.length) (hl : l.length ≤ 100000) (hc1 : (l.flatMap Item.enc ++ rest).length = c * 2) (hc2 : l.length ≤ c) (hs : Dn l k) :
    Tri Try.prog 36 [.pointer (some ⟨b, 0, none⟩), .int .i64 k] g [qBox b (some ⟨hb, 0, none⟩) l.length c, ⟨hb, .cells (l.flatMap Item.enc ++ rest) 29 (0, 0)⟩] fun v g' m' =>
      v = .tuple #[] ∧ ∃ l', l'.Perm l ∧ m' = [qBox b (some ⟨hb, 0, none⟩) l.length c, ⟨hb, .cells (l'.flatMap Item.enc ++ rest) 29 (0, 0)⟩] ∧ HeapOk l' := by
  refine Tri.vc [.own 0 0, .val (.int .i64 k)] Try.func36 rfl Try.ntmps36 rfl rfl ?_
  conv => whnf
  refine COK.loop (α := List Item × Nat) (fun x => [(0, .own 0 0), (1, .val (.int .i64 x.2))]) (fun x => [qBox b (some ⟨hb, 0, none⟩) l.length c, ⟨hb, .cells (x.1.flatMap Item.enc ++ rest) 29 (0, 0)⟩])
    (fun x _ => x.1.Perm l ∧ x.2 < l.length ∧ Dn x.1 x.2) (fun x => l.length - x.2) (l, k) [0, 1] (Sub.of (by decide) rfl ⟨rfl, rfl, trivial⟩) ⟨.refl _, hk, hs⟩ ?_
  rintro ⟨l1, i1⟩ g1 hg1 ⟨hp, hi1, hinv⟩
  simp only at hp hi1 hinv
  dsimp only
  have hlen : l1.length = l.length := hp.length_eq
  have e1 : IntKind.i64.wrap (IntKind.i64.wrap (2 * (i1 : Int)) + 1) = ((2 * i1 + 1 : Nat) : Int) := by
    rw [i64_in (x := 2 * (i1 : Int)) (by omega) (by omega), i64_in (by omega) (by omega)]; omega
  have e2 : IntKind.i64.wrap (IntKind.i64.wrap (2 * (i1 : Int)) + 2) = ((2 * i1 + 2 : Nat) : Int) := by
    rw [i64_in (x := 2 * (i1 : Int)) (by omega) (by omega), i64_in (by omega) (by omega)]; omega
  obtain ⟨x, hx⟩ : ∃ x, l1[i1]? = some x := ⟨_, List.getElem?_eq_getElem (by omega)⟩
  refine vcC_ok _ _ _ _ _ ?_
  conv => whnf
  refine COK.loop (α := Nat × Nat) (fun y => [(0, .own 0 0), (1, .val (.int .i64 i1)), (4, .val (.int .i64 y.2)), (5, .val (.int .i64 y.1))]) (fun _ => [qBox b (some ⟨hb, 0, none⟩) l.length c, ⟨hb, .cells (l1.flatMap Item.enc ++ rest) 29 (0, 0)⟩])
    (fun y _ => 2 * i1 + 1 ≤ y.1 ∧ y.1 ≤ 2 * i1 + 3 ∧ y.2 < l.length ∧ ∃ p, l1[y.2]? = some p ∧ (∀ c z, 2 * i1 + 1 ≤ c → c < y.1 → l1[c]? = some z → lt z p = false) ∧ (y.2 = i1 ∨ ((y.2 = 2 * i1 + 1 ∨ y.2 = 2 * i1 + 2) ∧ lt p x = true))) (fun y => 2 * i1 + 3 - y.1)
    (2 * i1 + 1, i1) [0, 1] (Sub.of (by decide) rfl ⟨rfl, rfl, rfl, int_eq e1, trivial⟩) ⟨Nat.le_refl _, by simp only; omega, hi1, x, hx, fun c z h1 h2 => by simp only at h2; omega, .inl rfl⟩ ?_
  rintro ⟨k1, m⟩ g2 hg2 ⟨hk1, hk2, hml, p, hm, hall, hmc⟩
  simp only at hk1 hk2 hml hm hall hmc
  dsimp only
  refine vcC_ok _ _ _ _ _ ?_
  conv => whnf
  have hend : (2 * i1 + 2 < k1 ∨ l.length ≤ k1) → ∀ c z, (c = 2 * i1 + 1 ∨ c = 2 * i1 + 2) → l1[c]? = some z → lt z p = false := fun h c z hc hz => by
    have := (List.getElem?_eq_some_iff.1 hz).1
    exact hall c z (by omega) (by omega) hz
  rw [e2]
  refine ⟨fun q => ?_, fun q => ?_⟩
  · have hq : k1 ≤ 2 * i1 + 2 := by have := of_decide_eq_true q; omega
    conv => whnf
    refine ⟨fun q2 => ?_, fun q2 => ?_⟩
    · have hq2 : k1 < l.length := by have := of_decide_eq_true q2; omega
      obtain ⟨z, hz⟩ : ∃ z, l1[k1]? = some z := ⟨_, List.getElem?_eq_getElem (by omega)⟩
      conv => whnf
      refine COK.quiet (by kernel_rfl) (by kernel_rfl) ?_
      conv => whnf
      refine ⟨⟨by omega, by omega⟩, ?_⟩
      conv => whnf
      refine YN.loadsOwn (b := hb) (q := 0 + k1 * 2) (cs := z.enc) 1 rfl rfl rfl rfl (elt_get hz) ?_
      conv => whnf
      refine ⟨⟨by omega, by omega⟩, ?_⟩
      conv => whnf
      refine YN.loadsOwn (b := hb) (q := 0 + m * 2) (cs := p.enc) 1 rfl rfl rfl rfl (elt_get hm) ?_
      conv => whnf
      refine QN.call _ [] rfl rfl rfl (by kernel_rfl) rfl (f_before g2 z p) (by decide) rfl (fun v g m _ h => h) ?_
      conv => whnf
      refine ⟨fun q3 => ?_, fun q3 => ?_⟩
      · conv => whnf
        refine ⟨(k1 + 1, k1), [0, 1], Sub.of (by decide) rfl ⟨rfl, rfl, rfl, int_eq (i64_in (by omega) (by omega)), trivial⟩, ⟨by simp only; omega, by simp only; omega, hq2, z, hz, fun c y h1 h2 hy => ?_, .inr ⟨by simp only; omega, ?_⟩⟩, by simp only; omega⟩
        · simp only at h2
          by_cases hc : c = k1
          · subst hc
            rw [hz] at hy
            obtain rfl := Option.some.inj hy
            rw [lt_not]; omega
          · exact le_trans' (le_of_lt' q3) (hall c y h1 (by omega) hy)
        · rcases hmc with h | h
          · subst h
            rw [hx] at hm
            obtain rfl := Option.some.inj hm
            exact q3
          · have h1 := h.2
            rw [lt_iff] at q3 h1 ⊢
            omega
      · conv => whnf
        refine ⟨(k1 + 1, m), [0, 1], Sub.of (by decide) rfl ⟨rfl, rfl, rfl, int_eq (i64_in (by omega) (by omega)), trivial⟩, ⟨by simp only; omega, by simp only; omega, hml, p, hm, fun c y h1 h2 hy => ?_, hmc⟩, by simp only; omega⟩
        simp only at h2
        by_cases hc : c = k1
        · subst hc
          rw [hz] at hy
          obtain rfl := Option.some.inj hy
          exact q3
        · exact hall c y h1 (by omega) hy
    · have hq2 : l.length ≤ k1 := by have := of_decide_eq_false q2; omega
      conv => whnf
      refine ⟨fun q3 => ?_, fun q3 => ?_⟩
      · have hmi : m = i1 := by have := eq_of_beq q3; omega
        subst hmi
        rw [hx] at hm
        obtain rfl := Option.some.inj hm
        conv => whnf
        exact .mk ⟨_, [0, 1], _, rfl, by decide, rfl, ⟨rfl, rfl, trivial⟩, rfl, l1, hp, rfl, dn_end hinv hx (hend (.inr hq2))⟩
      · have hmi : m ≠ i1 := fun h => by subst h; simp at q3
        have hmc' : (m = 2 * i1 + 1 ∨ m = 2 * i1 + 2) ∧ lt p x = true := by
          rcases hmc with h | h
          · exact absurd h hmi
          · exact h
        have hm' : (l1.set i1 p)[m]? = some p := by rw [List.getElem?_set_ne (by omega)]; exact hm
        have hnew : ((swp l1 i1 m x p).Perm l ∧ m < l.length ∧ Dn (swp l1 i1 m x p) m) ∧ l.length - m < l.length - i1 :=
          ⟨⟨(swp_perm hx hm).trans hp, hml, dn_step hinv hmc'.1 hx hm hmc'.2 (hend (.inr hq2))⟩, by omega⟩
        conv => whnf
        refine COK.drawL [16, 23] [0] (by kernel_rfl) (by kernel_rfl) ?_
        conv => whnf
        refine ⟨⟨by omega, by omega⟩, ?_⟩
        conv => whnf
        refine ⟨⟨by omega, by omega⟩, ?_⟩
        conv => whnf
        refine ⟨?_, ?_⟩
        · conv => whnf
          refine OOK.yn (YN.loadsOwn (b := hb) (q := 0 + m * 2) (cs := p.enc) 1 rfl rfl rfl rfl (elt_get hm) ?_)
          conv => whnf
          refine ⟨⟨rfl, rfl, trivial⟩, ?_⟩
          conv => whnf
          refine OOK.yn (YN.loadsOwn (b := hb) (q := 0 + i1 * 2) (cs := x.enc) 1 rfl rfl rfl rfl (elt_get hx) ?_)
          conv => whnf
          refine ⟨⟨rfl, rfl, trivial⟩, ?_⟩
          conv => whnf
          refine ⟨⟨by omega, by omega⟩, ?_⟩
          conv => whnf
          refine OOK.storeElt Item.len (k := i1) (j := 0) (l := l1) 1 p rfl rfl (v := .agg p.enc.toArray) rfl rfl rfl rfl rfl hx rfl (Nat.le_of_ble_eq_true rfl) ?_
          conv => whnf
          refine ⟨⟨rfl, rfl, trivial⟩, ?_⟩
          conv => whnf
          refine ⟨⟨by omega, by omega⟩, ?_⟩
          conv => whnf
          refine OOK.storeElt Item.len (k := m) (j := 0) (l := l1.set i1 p) 1 x rfl rfl (v := .agg x.enc.toArray) rfl rfl rfl rfl rfl hm' rfl (Nat.le_of_ble_eq_true rfl) ?_
          conv => whnf
          refine ⟨⟨rfl, rfl, trivial⟩, ?_⟩
          conv => whnf
          exact ⟨(swp l1 i1 m x p, m), [0, 1], Sub.of (by decide) rfl ⟨rfl, rfl, trivial⟩, hnew⟩
        · conv => whnf
          refine OOK.yn (YN.loadsOwn (b := hb) (q := 0 + i1 * 2) (cs := x.enc) 1 rfl rfl rfl rfl (elt_get hx) ?_)
          conv => whnf
          refine ⟨⟨rfl, rfl, trivial⟩, ?_⟩
          conv => whnf
          refine OOK.yn (YN.loadsOwn (b := hb) (q := 0 + m * 2) (cs := p.enc) 1 rfl rfl rfl rfl (elt_get hm) ?_)
          conv => whnf
          refine ⟨⟨rfl, rfl, trivial⟩, ?_⟩
          conv => whnf
          refine ⟨⟨by omega, by omega⟩, ?_⟩
          conv => whnf
          refine OOK.storeElt Item.len (k := i1) (j := 0) (l := l1) 1 p rfl rfl (v := .agg p.enc.toArray) rfl rfl rfl rfl rfl hx rfl (Nat.le_of_ble_eq_true rfl) ?_
          conv => whnf
          refine ⟨⟨rfl, rfl, trivial⟩, ?_⟩
          conv => whnf
          refine ⟨⟨by omega, by omega⟩, ?_⟩
          conv => whnf
          refine OOK.storeElt Item.len (k := m) (j := 0) (l := l1.set i1 p) 1 x rfl rfl (v := .agg x.enc.toArray) rfl rfl rfl rfl rfl hm' rfl (Nat.le_of_ble_eq_true rfl) ?_
          conv => whnf
          refine ⟨⟨rfl, rfl, trivial⟩, ?_⟩
          conv => whnf
          exact ⟨(swp l1 i1 m x p, m), [0, 1], Sub.of (by decide) rfl ⟨rfl, rfl, trivial⟩, hnew⟩
  · have hq : 2 * i1 + 2 < k1 := by have := of_decide_eq_false q; omega
    conv => whnf
    refine ⟨fun q3 => ?_, fun q3 => ?_⟩
    · have hmi : m = i1 := by have := eq_of_beq q3; omega
      subst hmi
      rw [hx] at hm
      obtain rfl := Option.some.inj hm
      conv => whnf
      exact .mk ⟨_, [0, 1], _, rfl, by decide, rfl, ⟨rfl, rfl, trivial⟩, rfl, l1, hp, rfl, dn_end hinv hx (hend (.inl hq))⟩
    · have hmi : m ≠ i1 := fun h => by subst h; simp at q3
      have hmc' : (m = 2 * i1 + 1 ∨ m = 2 * i1 + 2) ∧ lt p x = true := by
        rcases hmc with h | h
        · exact absurd h hmi
        · exact h
      have hm' : (l1.set i1 p)[m]? = some p := by rw [List.getElem?_set_ne (by omega)]; exact hm
      have hnew : ((swp l1 i1 m x p).Perm l ∧ m < l.length ∧ Dn (swp l1 i1 m x p) m) ∧ l.length - m < l.length - i1 :=
        ⟨⟨(swp_perm hx hm).trans hp, hml, dn_step hinv hmc'.1 hx hm hmc'.2 (hend (.inl hq))⟩, by omega⟩
      conv => whnf
      refine COK.drawL [16, 23] [0] (by kernel_rfl) (by kernel_rfl) ?_
      conv => whnf
      refine ⟨⟨by omega, by omega⟩, ?_⟩
      conv => whnf
      refine ⟨⟨by omega, by omega⟩, ?_⟩
      conv => whnf
      refine ⟨?_, ?_⟩
      · conv => whnf
        refine OOK.yn (YN.loadsOwn (b := hb) (q := 0 + m * 2) (cs := p.enc) 1 rfl rfl rfl rfl (elt_get hm) ?_)
        conv => whnf
        refine ⟨⟨rfl, rfl, trivial⟩, ?_⟩
        conv => whnf
        refine OOK.yn (YN.loadsOwn (b := hb) (q := 0 + i1 * 2) (cs := x.enc) 1 rfl rfl rfl rfl (elt_get hx) ?_)
        conv => whnf
        refine ⟨⟨rfl, rfl, trivial⟩, ?_⟩
        conv => whnf
        refine ⟨⟨by omega, by omega⟩, ?_⟩
        conv => whnf
        refine OOK.storeElt Item.len (k := i1) (j := 0) (l := l1) 1 p rfl rfl (v := .agg p.enc.toArray) rfl rfl rfl rfl rfl hx rfl (Nat.le_of_ble_eq_true rfl) ?_
        conv => whnf
        refine ⟨⟨rfl, rfl, trivial⟩, ?_⟩
        conv => whnf
        refine ⟨⟨by omega, by omega⟩, ?_⟩
        conv => whnf
        refine OOK.storeElt Item.len (k := m) (j := 0) (l := l1.set i1 p) 1 x rfl rfl (v := .agg x.enc.toArray) rfl rfl rfl rfl rfl hm' rfl (Nat.le_of_ble_eq_true rfl) ?_
        conv => whnf
        refine ⟨⟨rfl, rfl, trivial⟩, ?_⟩
        conv => whnf
        exact ⟨(swp l1 i1 m x p, m), [0, 1], Sub.of (by decide) rfl ⟨rfl, rfl, trivial⟩, hnew⟩
      · conv => whnf
        refine OOK.yn (YN.loadsOwn (b := hb) (q := 0 + i1 * 2) (cs := x.enc) 1 rfl rfl rfl rfl (elt_get hx) ?_)
        conv => whnf
        refine ⟨⟨rfl, rfl, trivial⟩, ?_⟩
        conv => whnf
        refine OOK.yn (YN.loadsOwn (b := hb) (q := 0 + m * 2) (cs := p.enc) 1 rfl rfl rfl rfl (elt_get hm) ?_)
        conv => whnf
        refine ⟨⟨rfl, rfl, trivial⟩, ?_⟩
        conv => whnf
        refine ⟨⟨by omega, by omega⟩, ?_⟩
        conv => whnf
        refine OOK.storeElt Item.len (k := i1) (j := 0) (l := l1) 1 p rfl rfl (v := .agg p.enc.toArray) rfl rfl rfl rfl rfl hx rfl (Nat.le_of_ble_eq_true rfl) ?_
        conv => whnf
        refine ⟨⟨rfl, rfl, trivial⟩, ?_⟩
        conv => whnf
        refine ⟨⟨by omega, by omega⟩, ?_⟩
        conv => whnf
        refine OOK.storeElt Item.len (k := m) (j := 0) (l := l1.set i1 p) 1 x rfl rfl (v := .agg x.enc.toArray) rfl rfl rfl rfl rfl hm' rfl (Nat.le_of_ble_eq_true rfl) ?_
        conv => whnf
        refine ⟨⟨rfl, rfl, trivial⟩, ?_⟩
        conv => whnf
        exact ⟨(swp l1 i1 m x p, m), [0, 1], Sub.of (by decide) rfl ⟨rfl, rfl, trivial⟩, hnew⟩
end Go.Proofs.Ytnkfpapegknlfaa
