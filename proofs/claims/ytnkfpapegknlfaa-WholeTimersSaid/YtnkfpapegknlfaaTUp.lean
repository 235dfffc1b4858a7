/- WholeTimers: an item goes up, an item goes down. -/
import Derived.Test.YtnkfpapegknlfaaTFns
set_option linter.unusedVariables false
set_option linter.unusedSimpArgs false
set_option maxRecDepth 100000
namespace Go.Proofs.Ytnkfpapegknlfaa
open Go Go.SX

theorem elt_get {l : List Item} {rest : List Value} {k : Nat} {x : Item} (hx : l[k]? = some x) (j : Nat) (v : Value) (hv : x.enc[j]? = some v) : (l.flatMap Item.enc ++ rest)[0 + k * 2 + j]? = some v := by
  have h1 := flat_get Item.len l k j x v hx hv
  rw [Nat.zero_add, List.getElem?_append_left (List.getElem?_eq_some_iff.1 h1).1]; exact h1
theorem f_up (g : GH) (b hb : Nat) (c : Nat) (l : List Item) (rest : List Value) (k : Nat) (hk : k < l.length) (hl : l.length ≤ 100000) (hc1 : (l.flatMap Item.enc ++ rest).length = c * 2) (hc2 : l.length ≤ c) (hs : Up l k ∨ Bk l k) :
    Tri Try.prog 31 [.pointer (some ⟨b, 0, none⟩), .int .i64 k] g [qBox b (some ⟨hb, 0, none⟩) l.length c, ⟨hb, .cells (l.flatMap Item.enc ++ rest) 29 (0, 0)⟩] fun v g' m' =>
      v = .tuple #[] ∧ ∃ l', l'.Perm l ∧ m' = [qBox b (some ⟨hb, 0, none⟩) l.length c, ⟨hb, .cells (l'.flatMap Item.enc ++ rest) 29 (0, 0)⟩] ∧ (HeapOk l' ∨ (l' = l ∧ Bk l k ∧ (k = 0 ∨ ok l k))) := by
  refine Tri.vc [.own 0 0, .val (.int .i64 k)] Try.func31 rfl Try.ntmps31 rfl rfl ?_
  conv => whnf
  refine COK.loop (α := List Item × Nat) (fun x => [(0, .own 0 0), (1, .val (.int .i64 x.2))]) (fun x => [qBox b (some ⟨hb, 0, none⟩) l.length c, ⟨hb, .cells (x.1.flatMap Item.enc ++ rest) 29 (0, 0)⟩])
    (fun x _ => x.1.Perm l ∧ x.2 < l.length ∧ (Up x.1 x.2 ∨ (x.1 = l ∧ x.2 = k ∧ Bk l k))) (fun x => x.2) (l, k) [0, 1] (Sub.of (by decide) rfl ⟨rfl, rfl, trivial⟩) ⟨.refl _, hk, by rcases hs with h | h; exact .inl h; exact .inr ⟨rfl, rfl, h⟩⟩ ?_
  rintro ⟨l1, k1⟩ g1 hg1 ⟨hp, hk1, hinv⟩
  simp only at hp hk1 hinv
  dsimp only
  have hlen : l1.length = l.length := hp.length_eq
  refine vcC_ok _ _ _ _ _ ?_
  conv => whnf
  refine ⟨fun q => ?_, fun q => ?_⟩
  rotate_left
  · have h0 : k1 = 0 := by have := of_decide_eq_false q; omega
    subst h0
    conv => whnf
    exact .mk ⟨_, [0, 1], _, rfl, by decide, rfl, ⟨rfl, rfl, trivial⟩, rfl, l1, hp, rfl, by
      rcases hinv with h | ⟨h1, h2, h3⟩
      · exact .inl (h.heap (.inl rfl))
      · subst h1; subst h2; exact .inr ⟨rfl, h3, .inl rfl⟩⟩
  have hpos : 0 < k1 := by have := of_decide_eq_true q; omega
  have hpar : IntKind.i64.wrap ((IntKind.i64.wrap ((k1 : Int) - 1)).tdiv 2) = (((k1 - 1) / 2 : Nat) : Int) := by
    rw [i64_in (x := (k1 : Int) - 1) (by omega) (by omega), show (k1 : Int) - 1 = ((k1 - 1 : Nat) : Int) by omega]
    rw [show ((k1 - 1 : Nat) : Int).tdiv 2 = (((k1 - 1) / 2 : Nat) : Int) from rfl]
    exact i64_in (by omega) (by omega)
  obtain ⟨x, hx⟩ : ∃ x, l1[k1]? = some x := ⟨_, List.getElem?_eq_getElem (by omega)⟩
  obtain ⟨p, hpx⟩ : ∃ p, l1[(k1 - 1) / 2]? = some p := ⟨_, List.getElem?_eq_getElem (by omega)⟩
  generalize hpd : (k1 - 1) / 2 = kp at hpar hpx
  have hkp : kp < l.length := by omega
  conv => whnf
  rw [hpar]
  refine COK.quiet (by kernel_rfl) (by kernel_rfl) ?_
  conv => whnf
  refine ⟨⟨by omega, by omega⟩, ?_⟩
  conv => whnf
  refine YN.loadsOwn (b := hb) (q := 0 + k1 * 2) (cs := x.enc) 1 rfl rfl rfl rfl (elt_get hx) ?_
  conv => whnf
  refine ⟨⟨by omega, by omega⟩, ?_⟩
  conv => whnf
  refine YN.loadsOwn (b := hb) (q := 0 + kp * 2) (cs := p.enc) 1 rfl rfl rfl rfl (elt_get hpx) ?_
  conv => whnf
  refine QN.call _ [] rfl rfl rfl (by kernel_rfl) rfl (f_before g1 x p) (by decide) rfl (fun v g m _ h => h) ?_
  conv => whnf
  refine ⟨fun q2 => ?_, fun q2 => ?_⟩
  · have hno : lt x p = false := by simpa using q2
    have hok : ok l1 k1 := fun x' p' h1 h2 => by
      rw [hx] at h1
      rw [hpd, hpx] at h2
      obtain rfl := Option.some.inj h1
      obtain rfl := Option.some.inj h2
      exact hno
    conv => whnf
    exact .mk ⟨_, [0, 1], _, rfl, by decide, rfl, ⟨rfl, rfl, trivial⟩, rfl, l1, hp, rfl, by
      rcases hinv with h | ⟨h1, h2, h3⟩
      · exact .inl (h.heap (.inr hok))
      · subst h1; subst h2; exact .inr ⟨rfl, h3, .inr hok⟩⟩
  · have hyes : lt x p = true := by simpa using q2
    have hpx' : (l1.set k1 p)[kp]? = some p := by rw [List.getElem?_set_ne (by omega)]; exact hpx
    have hnew : ((swp l1 k1 kp x p).Perm l ∧ kp < l.length ∧ (Up (swp l1 k1 kp x p) kp ∨ (swp l1 k1 kp x p = l ∧ kp = k ∧ Bk l k))) ∧ kp < k1 := by
      refine ⟨⟨(swp_perm hx hpx).trans hp, hkp, .inl ?_⟩, by omega⟩
      have := up_step (l := l1) (k := k1) (a := x) (b := p) (by
        rcases hinv with h | ⟨h1, h2, h3⟩
        · exact .inl h
        · subst h1; subst h2; exact .inr h3) hpos hx (by rw [hpd]; exact hpx) hyes
      rw [hpd] at this
      exact this
    conv => whnf
    refine COK.drawL [16, 23] [0] (by kernel_rfl) (by kernel_rfl) ?_
    conv => whnf
    refine ⟨⟨by omega, by omega⟩, ?_⟩
    conv => whnf
    refine ⟨⟨by omega, by omega⟩, ?_⟩
    conv => whnf
    refine ⟨?_, ?_⟩
    · conv => whnf
      refine OOK.yn (YN.loadsOwn (b := hb) (q := 0 + kp * 2) (cs := p.enc) 1 rfl rfl rfl rfl (elt_get hpx) ?_)
      conv => whnf
      refine ⟨⟨rfl, rfl, trivial⟩, ?_⟩
      conv => whnf
      refine OOK.yn (YN.loadsOwn (b := hb) (q := 0 + k1 * 2) (cs := x.enc) 1 rfl rfl rfl rfl (elt_get hx) ?_)
      conv => whnf
      refine ⟨⟨rfl, rfl, trivial⟩, ?_⟩
      conv => whnf
      refine ⟨⟨by omega, by omega⟩, ?_⟩
      conv => whnf
      refine OOK.storeElt Item.len (k := k1) (j := 0) (l := l1) 1 p rfl rfl (v := .agg p.enc.toArray) rfl rfl rfl rfl rfl hx rfl (Nat.le_of_ble_eq_true rfl) ?_
      conv => whnf
      refine ⟨⟨rfl, rfl, trivial⟩, ?_⟩
      conv => whnf
      refine ⟨⟨by omega, by omega⟩, ?_⟩
      conv => whnf
      refine OOK.storeElt Item.len (k := kp) (j := 0) (l := l1.set k1 p) 1 x rfl rfl (v := .agg x.enc.toArray) rfl rfl rfl rfl rfl hpx' rfl (Nat.le_of_ble_eq_true rfl) ?_
      conv => whnf
      refine ⟨⟨rfl, rfl, trivial⟩, ?_⟩
      conv => whnf
      exact ⟨(swp l1 k1 kp x p, kp), [0, 1], Sub.of (by decide) rfl ⟨rfl, rfl, trivial⟩, hnew⟩
    · conv => whnf
      refine OOK.yn (YN.loadsOwn (b := hb) (q := 0 + k1 * 2) (cs := x.enc) 1 rfl rfl rfl rfl (elt_get hx) ?_)
      conv => whnf
      refine ⟨⟨rfl, rfl, trivial⟩, ?_⟩
      conv => whnf
      refine OOK.yn (YN.loadsOwn (b := hb) (q := 0 + kp * 2) (cs := p.enc) 1 rfl rfl rfl rfl (elt_get hpx) ?_)
      conv => whnf
      refine ⟨⟨rfl, rfl, trivial⟩, ?_⟩
      conv => whnf
      refine ⟨⟨by omega, by omega⟩, ?_⟩
      conv => whnf
      refine OOK.storeElt Item.len (k := k1) (j := 0) (l := l1) 1 p rfl rfl (v := .agg p.enc.toArray) rfl rfl rfl rfl rfl hx rfl (Nat.le_of_ble_eq_true rfl) ?_
      conv => whnf
      refine ⟨⟨rfl, rfl, trivial⟩, ?_⟩
      conv => whnf
      refine ⟨⟨by omega, by omega⟩, ?_⟩
      conv => whnf
      refine OOK.storeElt Item.len (k := kp) (j := 0) (l := l1.set k1 p) 1 x rfl rfl (v := .agg x.enc.toArray) rfl rfl rfl rfl rfl hpx' rfl (Nat.le_of_ble_eq_true rfl) ?_
      conv => whnf
      refine ⟨⟨rfl, rfl, trivial⟩, ?_⟩
      conv => whnf
      exact ⟨(swp l1 k1 kp x p, kp), [0, 1], Sub.of (by decide) rfl ⟨rfl, rfl, trivial⟩, hnew⟩
end Go.Proofs.Ytnkfpapegknlfaa
