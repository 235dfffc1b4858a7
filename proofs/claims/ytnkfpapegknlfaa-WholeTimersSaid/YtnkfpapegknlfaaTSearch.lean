/- WholeTimers: the binary search. -/
import Derived.Test.YtnkfpapegknlfaaTOrd
import Derived.Test.YtnkfpapegknlfaaTSort
set_option linter.unusedVariables false
set_option linter.unusedSimpArgs false
set_option maxRecDepth 100000
namespace Go.Proofs.Ytnkfpapegknlfaa
open Go Go.SX

theorem sorted_at {l : List Item} (h : Sorted l) {i j : Nat} (hij : i < j) {x y : Item} (hx : l[i]? = some x) (hy : l[j]? = some y) : lt x y = true := by
  obtain ⟨h1, rfl⟩ := List.getElem?_eq_some_iff.1 hx
  obtain ⟨h2, rfl⟩ := List.getElem?_eq_some_iff.1 hy
  exact List.pairwise_iff_getElem.1 h i j h1 h2 hij
theorem f_search (g : GH) (A : Option Addr) (c : Nat) (l : List Item) (x : Item) (hA : Row g Item.enc A l) (hl : l.length ≤ 100000) (hs : Sorted l) (hid : ∀ y ∈ l, y.id ≠ x.id) :
    Tri Try.prog 18 [.slice A l.length c, .agg x.enc.toArray, .func (.func 6) #[] #[]] g [] fun v g' m' => m' = [] ∧
      ∃ (k : Nat) (b : Bool), v = .tuple #[.int .i64 k, .bool b] ∧ k ≤ l.length ∧ (∀ j y, j < k → l[j]? = some y → lt y x = true) ∧ (∀ j y, k ≤ j → l[j]? = some y → lt y x = false) := by
  refine Tri.vc [.val (.slice A l.length c), .val (.agg x.enc.toArray), .val (.func (.func 6) #[] #[])] Try.func18 rfl Try.ntmps18 rfl rfl ?_
  conv => whnf
  intro b
  conv => whnf
  have hlt : ∀ y ∈ l, ∀ g' : GH, Tri Try.prog 6 [.agg y.enc.toArray, .agg x.enc.toArray] g' [] fun v g' m' => v = .int .i64 (if lt y x then -1 else 1) ∧ m' = [] := fun y hy g' => f_less g' y x (hid y hy)
  refine COK.loop (α := Nat × Nat) (fun i => [(0, .val (.slice A l.length c)), (2, .val (.func (.func 6) #[] #[])), (4, .own 0 0), (8, .val (.int .i64 l.length)), (9, .val (.int .i64 (i.1 : Nat))), (10, .val (.int .i64 (i.2 : Nat)))]) (fun _ => [⟨b, .cells x.enc 29 (0, 0)⟩])
    (fun i _ => i.1 ≤ i.2 ∧ i.2 ≤ l.length ∧ (∀ j y, j < i.1 → l[j]? = some y → lt y x = true) ∧ (∀ j y, i.2 ≤ j → l[j]? = some y → lt y x = false)) (fun i => i.2 - i.1) (0, l.length) [0] (Sub.of (by decide) rfl ⟨rfl, rfl, rfl, rfl, rfl, rfl, trivial⟩)
    ⟨Nat.zero_le _, Nat.le_refl _, fun j y h => absurd h (Nat.not_lt_zero _), fun j y h hy => absurd (List.getElem?_eq_some_iff.1 hy).1 (Nat.not_lt.2 h)⟩ ?_
  rintro i g' hg ⟨h1, h2, h3, h4⟩
  refine vcC_ok _ _ _ _ _ ?_
  conv => whnf
  refine ⟨fun h5 => ?_, fun h5 => ?_⟩
  · have h6 : i.1 < i.2 := by simpa using h5
    obtain ⟨h, hh⟩ : ∃ h, h = (i.1 + i.2) / 2 := ⟨_, rfl⟩
    have hm : IntKind.i64.wrap ((IntKind.u64.wrap (IntKind.i64.wrap ((i.1 : Int) + (i.2 : Int)))).fdiv (2 ^ min (Int.toNat 1) IntKind.u64.bits)) = (h : Int) := by
      rw [i64_in (x := (i.1 : Int) + (i.2 : Int)) (by omega) (by omega), IntWalk.u64_in _ (by omega)]
      show IntKind.i64.wrap (((i.1 : Int) + (i.2 : Int)).fdiv (2 ^ 1)) = _
      rw [Int.fdiv_eq_ediv_of_nonneg _ (by decide), i64_in (by omega) (by omega)]
      omega
    have hb1 : i.1 ≤ h := by omega
    have hb2 : h < i.2 := by omega
    clear hh
    conv => whnf
    rw [hm]
    obtain ⟨y, hy⟩ : ∃ y, l[h]? = some y := ⟨_, List.getElem?_eq_getElem (by omega)⟩
    obtain ⟨a, rfl, hr⟩ := (hA.mono hg).at_ Item.len hy
    refine COK.quiet (by kernel_rfl) (by kernel_rfl) ?_
    conv => whnf
    refine ⟨⟨by omega, by omega⟩, ?_⟩
    conv => whnf
    refine YN.loads rfl rfl rfl hr ?_
    conv => whnf
    refine QN.call _ [] rfl rfl rfl (by kernel_rfl) rfl (hlt y (List.mem_of_getElem? hy) g') (by decide) rfl (fun v g m _ h => h) ?_
    conv => whnf
    refine ⟨fun h7 => ?_, fun h7 => ?_⟩
    · have h8 : lt y x = true := by
        cases e : lt y x with
        | true => rfl
        | false => rw [e] at h7; cases h7
      conv => whnf
      refine ⟨(h + 1, i.2), [0], Sub.of (by decide) rfl ⟨rfl, rfl, rfl, rfl, int_eq (i64_in (by omega) (by omega)), rfl, trivial⟩, ⟨by show h + 1 ≤ i.2; omega, h2, fun j z hj hz => ?_, h4⟩, by show i.2 - (h + 1) < i.2 - i.1; omega⟩
      have hj' : j < h + 1 := hj
      rcases Nat.lt_or_ge j h with hlt | hge
      · exact lt_trans' (sorted_at hs hlt hz hy) h8
      · obtain rfl : j = h := by omega
        obtain rfl := Option.some.inj (hz.symm.trans hy)
        exact h8
    · have h8 : lt y x = false := by
        cases e : lt y x with
        | false => rfl
        | true => rw [e] at h7; cases h7
      conv => whnf
      refine ⟨(i.1, h), [0], Sub.of (by decide) rfl ⟨rfl, rfl, rfl, rfl, rfl, rfl, trivial⟩, ⟨hb1, by show h ≤ _; omega, h3, fun j z hj hz => ?_⟩, by show h - i.1 < i.2 - i.1; omega⟩
      have hj' : h ≤ j := hj
      rcases Nat.lt_or_ge h j with hlt | hge
      · have h9 := sorted_at hs hlt hy hz
        cases e : lt z x with
        | false => rfl
        | true => rw [lt_trans' h9 e] at h8; cases h8
      · obtain rfl : j = h := by omega
        obtain rfl := Option.some.inj (hz.symm.trans hy)
        exact h8
  · have h6 : i.1 = i.2 := by have : ¬ (i.1 < i.2) := by simpa using h5
                              omega
    conv => whnf
    by_cases h7 : i.1 < l.length
    · obtain ⟨y, hy⟩ : ∃ y, l[i.1]? = some y := ⟨_, List.getElem?_eq_getElem (by omega)⟩
      obtain ⟨a, rfl, hr⟩ := (hA.mono hg).at_ Item.len hy
      refine COK.quiet (by kernel_rfl) (by kernel_rfl) ?_
      conv => whnf
      refine ⟨fun _ => ?_, fun q => absurd q (by simp [h7])⟩
      conv => whnf
      refine ⟨⟨by omega, by omega⟩, ?_⟩
      conv => whnf
      refine YN.loads rfl rfl rfl hr ?_
      conv => whnf
      refine QN.call _ [] rfl rfl rfl (by kernel_rfl) rfl (hlt y (List.mem_of_getElem? hy) g') (by decide) rfl (fun v g m _ h => h) ?_
      conv => whnf
      exact .mk ⟨_, [], _, rfl, by decide, rfl, trivial, rfl, i.1, _, rfl, by omega, h3, fun j y hj => h4 j y (by omega)⟩
    · refine COK.quiet (by kernel_rfl) (by kernel_rfl) ?_
      conv => whnf
      refine ⟨fun q => absurd q (by simp [h7]), fun _ => ?_⟩
      conv => whnf
      exact .mk ⟨_, [], _, rfl, by decide, rfl, trivial, rfl, i.1, _, rfl, by omega, h3, fun j y hj => h4 j y (by omega)⟩
end Go.Proofs.Ytnkfpapegknlfaa
