/- WholeTimers: a number of any size. -/
import Derived.Test.YtnkfpapegknlfaaTHeap
import Derived.Test.YtnkfpapegknlfaaHand
set_option linter.unusedVariables false
set_option linter.unusedSimpArgs false
set_option maxRecDepth 100000
namespace Go.Proofs.Ytnkfpapegknlfaa
open Go Go.SX

theorem f_word (g : GH) (hB : Nat) (h : Hd) (hh : h.ok g) :
    Tri Try.prog 17 [.pointer (some ⟨hB, 0, none⟩)] g [h.slot hB] fun v g' m' => ∃ (r : Int) (h' : Hd), v = .int .i64 r ∧ h'.ok g' ∧ m' = [h'.slot hB] := by
  refine Tri.vc [.own 0 0] Try.func17 rfl Try.ntmps17 rfl rfl ?_
  conv => whnf
  refine OOK.call [0] rfl rfl rfl (by kernel_rfl) rfl (hand_n g hB h 12 hh (by decide) (by decide)) (by decide) rfl ?_
  rintro v_ g1 m_ hg1 ⟨r, h1, rfl, r0, r1, hnh1, hh1, rfl⟩
  conv => whnf
  refine ⟨fun _ => ?_, fun _ => ?_⟩
  · conv => whnf
    intro b
    conv => whnf
    refine OOK.call [0] rfl rfl rfl (by kernel_rfl) rfl (hand_n g1 hB h1 6 hh1 (by decide) (by decide)) (by decide) rfl ?_
    rintro v_ g2 m_ hg2 ⟨u, h2, rfl, u0, u1, hnh2, hh2, rfl⟩
    conv => whnf
    refine ONeed.mk ⟨by omega, by omega⟩ ?_
    conv => whnf
    have hx : ∃ x : Int, ([.int .i64 9223372036854775807, .int .i64 (-9223372036854775808), .int .i64 9223372036854775806, .int .i64 4294967296, .int .i64 (-128), .int .i64 64] : List Value)[0 + u.toNat * 1]? = some (.int .i64 x) := by
      have : u = 0 ∨ u = 1 ∨ u = 2 ∨ u = 3 ∨ u = 4 ∨ u = 5 := by omega
      rcases this with rfl | rfl | rfl | rfl | rfl | rfl <;> exact ⟨_, rfl⟩
    obtain ⟨x, hx⟩ := hx
    refine OOK.yn (YN.loadOwn 1 rfl rfl rfl rfl hx ?_)
    conv => whnf
    exact .mk ⟨_, [0], _, rfl, by decide, rfl, ⟨rfl, trivial⟩, x, h2, rfl, hh2, rfl⟩
  · conv => whnf
    refine ⟨fun _ => ?_, fun _ => ?_⟩
    · conv => whnf
      refine OOK.call [0] rfl rfl rfl (by kernel_rfl) rfl (hand_n g1 hB h1 2147483648 hh1 (by decide) (by decide)) (by decide) rfl ?_
      rintro v_ g2 m_ hg2 ⟨u, h2, rfl, u0, u1, hnh2, hh2, rfl⟩
      conv => whnf
      refine OOK.call [0] rfl rfl rfl (by kernel_rfl) rfl (hand_n g2 hB h2 2147483648 hh2 (by decide) (by decide)) (by decide) rfl ?_
      rintro v_ g3 m_ hg3 ⟨u2, h3, rfl, u20, u21, hnh3, hh3, rfl⟩
      conv => whnf
      exact .mk ⟨_, [0], _, rfl, by decide, rfl, ⟨rfl, trivial⟩, _, h3, rfl, hh3, rfl⟩
    · conv => whnf
      refine ⟨fun q1 => ?_, fun q1 => ?_⟩
      · conv => whnf
        refine ⟨fun _ => ?_, fun q2 => absurd (q1.symm.trans q2) (by decide)⟩
        conv => whnf
        refine OOK.call [0] rfl rfl rfl (by kernel_rfl) rfl (hand_n g1 hB h1 70 hh1 (by decide) (by decide)) (by decide) rfl ?_
        rintro v_ g2 m_ hg2 ⟨u, h2, rfl, u0, u1, hnh2, hh2, rfl⟩
        conv => whnf
        exact .mk ⟨_, [0], _, rfl, by decide, rfl, ⟨rfl, trivial⟩, _, h2, rfl, hh2, rfl⟩
      · conv => whnf
        refine ⟨fun _ => ?_, fun _ => ?_⟩
        · conv => whnf
          refine OOK.call [0] rfl rfl rfl (by kernel_rfl) rfl (hand_n g1 hB h1 70 hh1 (by decide) (by decide)) (by decide) rfl ?_
          rintro v_ g2 m_ hg2 ⟨u, h2, rfl, u0, u1, hnh2, hh2, rfl⟩
          conv => whnf
          exact .mk ⟨_, [0], _, rfl, by decide, rfl, ⟨rfl, trivial⟩, _, h2, rfl, hh2, rfl⟩
        · conv => whnf
          refine OOK.call [0] rfl rfl rfl (by kernel_rfl) rfl (hand_n g1 hB h1 70 hh1 (by decide) (by decide)) (by decide) rfl ?_
          rintro v_ g2 m_ hg2 ⟨u, h2, rfl, u0, u1, hnh2, hh2, rfl⟩
          conv => whnf
          exact .mk ⟨_, [0], _, rfl, by decide, rfl, ⟨rfl, trivial⟩, _, h2, rfl, hh2, rfl⟩
end Go.Proofs.Ytnkfpapegknlfaa
