/- WholeTimers: the order of two integers, and the search's own order. -/
import Derived.Test.YtnkfpapegknlfaaTHeap
set_option linter.unusedVariables false
set_option linter.unusedSimpArgs false
set_option maxRecDepth 100000
namespace Go.Proofs.Ytnkfpapegknlfaa
open Go Go.SX

def intV (x : Int) : Value := .agg #[.int .i64 2, .int .i64 x, .string ⟨#[]⟩, .slice none 0 0, .slice none 0 0]
theorem f_int (g : GH) (x : Int) : Tri Try.prog 8 [.int .i64 x] g [] fun v g' m' => v = intV x ∧ m' = [] := by
  refine Tri.vc [.val (.int .i64 x)] Try.func8 rfl Try.ntmps8 rfl rfl ?_
  conv => whnf
  intro b
  conv => whnf
  exact .mk ⟨_, [], _, rfl, by decide, rfl, trivial, rfl, rfl⟩
theorem f_sign (g : GH) (x y : Int) : Tri Try.prog 24 [.int .i64 x, .int .i64 y] g [] fun v g' m' => v = .int .i64 (if x < y then -1 else if y < x then 1 else 0) ∧ m' = [] := by
  refine Tri.vc [.val (.int .i64 x), .val (.int .i64 y)] Try.func24 rfl Try.ntmps24 rfl rfl ?_
  conv => whnf
  refine ⟨fun h1 => ?_, fun h1 => ?_⟩
  · conv => whnf
    exact .mk ⟨_, [], _, rfl, by decide, rfl, trivial, by rw [if_pos (of_decide_eq_true h1)]; rfl, rfl⟩
  · conv => whnf
    refine ⟨fun h2 => ?_, fun h2 => ?_⟩
    · conv => whnf
      exact .mk ⟨_, [], _, rfl, by decide, rfl, trivial, by rw [if_neg (of_decide_eq_false h1), if_pos (of_decide_eq_true h2)]; rfl, rfl⟩
    · conv => whnf
      exact .mk ⟨_, [], _, rfl, by decide, rfl, trivial, by rw [if_neg (of_decide_eq_false h1), if_neg (of_decide_eq_false h2)]; rfl, rfl⟩
theorem f_order (g : GH) (x y : Int) (h : x ≠ y) : Tri Try.prog 7 [intV x, intV y] g [] fun v g' m' => v = .int .i64 (if x < y then -1 else 1) ∧ m' = [] := by
  refine Tri.vc [.val (intV x), .val (intV y)] Try.func7 rfl Try.ntmps7 rfl rfl ?_
  conv => whnf
  intro b1
  conv => whnf
  intro b2
  conv => whnf
  refine ⟨(by intro q; cases q), fun _ => ?_⟩
  conv => whnf
  refine OOK.call [] rfl rfl rfl (by kernel_rfl) rfl (f_sign g x y) (by decide) rfl ?_
  rintro v g1 m' hg ⟨rfl, rfl⟩
  conv => whnf
  refine ⟨fun _ => ?_, fun q => ?_⟩
  · conv => whnf
    refine .mk ⟨_, [], _, rfl, by decide, rfl, trivial, ?_, rfl⟩
    by_cases h1 : x < y
    · rw [if_pos h1, if_pos h1]; rfl
    · rw [if_neg h1, if_neg h1, if_pos (by omega)]; rfl
  · exfalso
    by_cases h1 : x < y
    · rw [if_pos h1] at q; cases q
    · rw [if_neg h1, if_pos (by omega)] at q; cases q
theorem f_less (g : GH) (x y : Item) (h : x.id ≠ y.id) : Tri Try.prog 6 [.agg x.enc.toArray, .agg y.enc.toArray] g [] fun v g' m' => v = .int .i64 (if lt x y then -1 else 1) ∧ m' = [] := by
  refine Tri.vc [.val (.agg x.enc.toArray), .val (.agg y.enc.toArray)] Try.func6 rfl Try.ntmps6 rfl rfl ?_
  conv => whnf
  intro b1
  conv => whnf
  intro b2
  conv => whnf
  refine ⟨fun h1 => ?_, fun h1 => ?_⟩
  · have hd : x.due ≠ y.due := by simpa using h1
    conv => whnf
    refine COK.quiet (by kernel_rfl) (by kernel_rfl) ?_
    conv => whnf
    refine QN.call _ [] rfl rfl rfl (by kernel_rfl) rfl (f_int g x.due) (by decide) rfl (fun v g m _ h => h) ?_
    conv => whnf
    refine QN.call _ [] rfl rfl rfl (by kernel_rfl) rfl (f_int g y.due) (by decide) rfl (fun v g m _ h => h) ?_
    conv => whnf
    refine QN.call _ [] rfl rfl rfl (by kernel_rfl) rfl (f_order g x.due y.due hd) (by decide) rfl (fun v g m _ h => h) ?_
    conv => whnf
    refine .mk ⟨_, [], _, rfl, by decide, rfl, trivial, ?_, rfl⟩
    unfold lt
    simp [hd]; rfl
  · have hd : x.due = y.due := by simpa using h1
    conv => whnf
    refine COK.quiet (by kernel_rfl) (by kernel_rfl) ?_
    conv => whnf
    refine QN.call _ [] rfl rfl rfl (by kernel_rfl) rfl (f_int g x.id) (by decide) rfl (fun v g m _ h => h) ?_
    conv => whnf
    refine QN.call _ [] rfl rfl rfl (by kernel_rfl) rfl (f_int g y.id) (by decide) rfl (fun v g m _ h => h) ?_
    conv => whnf
    refine QN.call _ [] rfl rfl rfl (by kernel_rfl) rfl (f_order g x.id y.id h) (by decide) rfl (fun v g m _ h => h) ?_
    conv => whnf
    refine .mk ⟨_, [], _, rfl, by decide, rfl, trivial, ?_, rfl⟩
    unfold lt
    simp [hd]; rfl
end Go.Proofs.Ytnkfpapegknlfaa
