/- WholeStores: the journal's own operations. -/
import Derived.Test.YtkkefknmahnjnaaSJop
set_option linter.unusedVariables false
set_option linter.unusedSimpArgs false
set_option maxRecDepth 100000
namespace Go.Proofs.Ytkkefknmahnjnaa
open Go Go.SX

theorem f_jchange (g : GH) (jb db mb : Nat) (A : Option Addr) (k c : Nat) (d : Dk) (B : Option Addr) (bl cb : Nat) (C : Option Addr) (n e : Nat) (R : Int → Dk → GH → Prop) (hbl : bl ≤ 65536)
    (hst : Tri Try.prog 46 [.slice C n e] g (M3 (jBox jb db A k c false) db mb d) fun v g' m' => ∃ cd d', v = .int .i64 cd ∧ m' = M3 (jBox jb db A k c false) db mb d' ∧ R cd d' g') :
    Tri Try.prog 27 [.pointer (some ⟨jb, 0, none⟩), .slice B bl cb, .slice C n e] g (M3 (jBox jb db A k c false) db mb d) fun v g' m' => ∃ cd d', v = .int .i64 cd ∧ m' = M3 (jBox jb db A k c (cd == 28)) db mb d' ∧ R cd d' g' := by
  refine Tri.vc [.own 0 0, .val (.slice B bl cb), .val (.slice C n e)] Try.func27 rfl Try.ntmps27 rfl rfl ?_
  conv => whnf
  refine ⟨(by intro q; cases q), fun _ => ?_⟩
  conv => whnf
  refine ⟨fun q => absurd (of_decide_eq_true q) (by omega), fun _ => ?_⟩
  conv => whnf
  refine OOK.call [0, 1, 2] rfl rfl rfl (by kernel_rfl) rfl hst (by decide) rfl ?_
  rintro v_ g1 m_ hg1 ⟨cd, d', rfl, rfl, hR⟩
  conv => whnf
  exact .mk ⟨_, [0, 1, 2], _, rfl, by decide, rfl, ⟨rfl, rfl, rfl, trivial⟩, cd, d', rfl, rfl, hR⟩
theorem f_jdead (g : GH) (jb db : Nat) (A : Option Addr) (k c : Nat) (B : Option Addr) (bl cb : Nat) (C : Option Addr) (n e : Nat) :
    Tri Try.prog 27 [.pointer (some ⟨jb, 0, none⟩), .slice B bl cb, .slice C n e] g [jBox jb db A k c true] fun v g' m' => v = .int .i64 28 ∧ m' = [jBox jb db A k c true] := by
  refine Tri.vc [.own 0 0, .val (.slice B bl cb), .val (.slice C n e)] Try.func27 rfl Try.ntmps27 rfl rfl ?_
  conv => whnf
  refine ⟨fun _ => ?_, (by intro q; cases q)⟩
  conv => whnf
  exact .mk ⟨_, [0], _, rfl, by decide, rfl, ⟨rfl, trivial⟩, rfl, rfl⟩
theorem f_jappD (g : GH) (jb db : Nat) (A : Option Addr) (k c : Nat) (B : Option Addr) (bl cb : Nat) :
    Tri Try.prog 14 [.pointer (some ⟨jb, 0, none⟩), .slice B bl cb] g [jBox jb db A k c true] fun v g' m' => v = .int .i64 28 ∧ m' = [jBox jb db A k c true] := by
  refine Tri.vc [.own 0 0, .val (.slice B bl cb)] Try.func14 rfl Try.ntmps14 rfl rfl ?_
  conv => whnf
  intro bj
  conv => whnf
  intro bb
  conv => whnf
  refine OOK.call [0] rfl rfl rfl (by kernel_rfl) rfl (f_nothing g jb db A k c true) (by decide) rfl ?_
  rintro v_ g1 m_ hg1 ⟨rfl, rfl⟩
  conv => whnf
  refine ⟨(by intro q; cases q), fun _ => ?_⟩
  conv => whnf
  intro cb2
  conv => whnf
  refine OOK.call [0] rfl rfl rfl (by kernel_rfl) rfl (f_jdead g1 jb db A k c B bl cb (some ⟨cb2, 0, none⟩) 2 2) (by decide) rfl ?_
  rintro v_ g2 m_ hg2 ⟨rfl, rfl⟩
  conv => whnf
  refine ⟨fun q => absurd q (by decide), fun _ => ?_⟩
  conv => whnf
  exact .mk ⟨_, [0], _, rfl, by decide, rfl, ⟨rfl, trivial⟩, rfl, rfl⟩
theorem f_jcomD (g : GH) (jb db : Nat) (A : Option Addr) (k c : Nat) (B : Option Addr) (b : List UInt8) (cb : Nat) (hB : Row g encB B b) (hbl : b.length ≤ 10000) :
    Tri Try.prog 12 [.pointer (some ⟨jb, 0, none⟩), .slice B b.length cb] g [jBox jb db A k c true] fun v g' m' => v = .int .i64 28 ∧ m' = [jBox jb db A k c true] := by
  refine Tri.vc [.own 0 0, .val (.slice B b.length cb)] Try.func12 rfl Try.ntmps12 rfl rfl ?_
  conv => whnf
  refine OOK.call [0] rfl rfl rfl (by kernel_rfl) rfl (f_nothing g jb db A k c true) (by decide) rfl ?_
  rintro v_ g1 m_ hg1 ⟨rfl, rfl⟩
  conv => whnf
  refine ⟨(by intro q; cases q), fun _ => ?_⟩
  conv => whnf
  refine COK.draw [0] (by kernel_rfl) (by kernel_rfl) ?_
  conv => whnf
  refine OOK.call [] rfl rfl rfl (by kernel_rfl) rfl (f_frame g1 B cb b (hB.mono hg1) (by omega)) (by decide) rfl ?_
  rintro v_ g2 m_ hg2 ⟨rfl, A', c', rfl, hr'⟩
  conv => whnf
  refine ⟨⟨rfl, trivial⟩, ?_⟩
  conv => whnf
  refine OOK.call [] rfl rfl rfl (by kernel_rfl) rfl (f_repl g2 db A' (frameL b).length c') (by decide) rfl ?_
  rintro v_ g3 m_ hg3 ⟨rfl, cb2, bx, bo, bn, bb, rfl, -, -, -, -, -⟩
  conv => whnf
  refine ⟨⟨rfl, trivial⟩, ?_⟩
  conv => whnf
  refine OOK.call [0] rfl rfl rfl (by kernel_rfl) rfl (f_jdead g3 jb db A k c B b.length cb (some ⟨cb2, 0, none⟩) 3 3) (by decide) rfl ?_
  rintro v_ g4 m_ hg4 ⟨rfl, rfl⟩
  conv => whnf
  refine ⟨⟨rfl, trivial⟩, ?_⟩
  conv => whnf
  refine ⟨fun q => absurd q (by decide), fun _ => ?_⟩
  conv => whnf
  exact .mk ⟨_, [0], _, rfl, by decide, rfl, ⟨rfl, trivial⟩, rfl, rfl⟩
theorem f_jcom (g : GH) (jb db mb : Nat) (rs : List Rec) (s : Slot) (A : Option Addr) (c : Nat) (d : Dk) (B : Option Addr) (b : List UInt8) (cb : Nat) (hB : Row g encB B b) (hbl : b.length ≤ 10000) (f : Int) (l : List UInt8) (q : Nat) (hs : Sim f false d) (hl : LogF g d l q) :
    Tri Try.prog 12 [.pointer (some ⟨jb, 0, none⟩), .slice B b.length cb] g [jBox jb db A rs.length c false, s, dBox db mb d, mBox mb d] fun v g' m' =>
      (∃ d', v = .int .i64 28 ∧ QR f l (frameL b) q 28 d' g' ∧ m' = [jBox jb db A rs.length c true, s, dBox db mb d', mBox mb d']) ∨
      (∃ d' s' A' c' r, v = .int .i64 0 ∧ PR f l (frameL b) q 3 d' g' ∧ OwnAt 22 1 Rec.enc [r] s' A' c' ∧ r.l = b ∧ Row g' encB r.A r.l ∧ m' = [jBox jb db A' 1 c' false, s, dBox db mb d', mBox mb d', s']) := by
  refine Tri.vc [.own 0 0, .val (.slice B b.length cb)] Try.func12 rfl Try.ntmps12 rfl rfl ?_
  conv => whnf
  refine OOK.call [0] rfl rfl rfl (by kernel_rfl) rfl (f_nothing g jb db A rs.length c false) (by decide) rfl ?_
  rintro v_ g1 m_ hg1 ⟨rfl, rfl⟩
  conv => whnf
  refine ⟨(by intro q; cases q), fun _ => ?_⟩
  conv => whnf
  refine COK.cut (α := Int × Dk) (fun x => [(0, .own 0 0), (1, .val (.slice B b.length cb)), (5, .val (.int .i64 x.1))]) (fun x => [jBox jb db A rs.length c (x.1 == 28), s, dBox db mb x.2, mBox mb x.2]) (fun x g => (x.1 = 0 ∧ PR f l (frameL b) q 3 x.2 g) ∨ (x.1 ≠ 0 ∧ QR f l (frameL b) q x.1 x.2 g)) ?_ ?_
  · refine COK.draw [] (by kernel_rfl) (by kernel_rfl) ?_
    conv => whnf
    refine OAnd.mk ?_ ?_
    · conv => whnf
      conv => whnf
      refine OAnd.mk ⟨rfl, rfl, rfl, rfl, trivial⟩ ?_
      conv => whnf
      refine OAnd.mk ?_ ?_
      · conv => whnf
        conv => whnf
        refine OAnd.mk ⟨rfl, rfl, rfl, rfl, trivial⟩ ?_
        conv => whnf
        refine OOK.call [] rfl rfl rfl (by kernel_rfl) rfl (f_frame g1 B cb b (hB.mono hg1) (by omega)) (by decide) rfl ?_
        rintro v_ g2 m_ hg2 ⟨rfl, A', c', rfl, hr'⟩
        conv => whnf
        refine OAnd.mk ⟨rfl, rfl, rfl, rfl, trivial⟩ ?_
        conv => whnf
        refine OOK.call [] rfl rfl rfl (by kernel_rfl) rfl (f_repl g2 db A' (frameL b).length c') (by decide) rfl ?_
        rintro v_ g3 m_ hg3 ⟨rfl, cb2, bx, bo, bn, bb, rfl, hC, hx, ho, hn, hbb⟩
        conv => whnf
        refine ⟨⟨rfl, rfl, rfl, rfl, trivial⟩, ?_⟩
        conv => whnf
        refine OOK.call [0, 2, 3] rfl rfl rfl (by kernel_rfl) rfl (f_jchange g3 jb db mb A rs.length c d B b.length cb (some ⟨cb2, 0, none⟩) 3 3 _ (by omega) (steps_repl g3 (jBox jb db A rs.length c false) db mb bx bo bn bb d hx ho hn A' c' (frameL b) hbb (hr'.mono hg3) (by rw [frame_len]; omega) f l q hs (hl.mono ((hg1.trans hg2).trans hg3)) (some ⟨cb2, 0, none⟩) 3 hC)) (by decide) rfl ?_
        rintro v_ g4 m_ hg4 ⟨cd, d', rfl, rfl, hR⟩
        conv => whnf
        refine ⟨⟨rfl, rfl, rfl, rfl, trivial⟩, ?_⟩
        conv => whnf
        exact ⟨(cd, d'), [0, 1, 2, 3], Sub.of (by decide) rfl ⟨rfl, rfl, rfl, trivial⟩, hR⟩
      · skip
        conv => whnf
        refine OOK.call [] rfl rfl rfl (by kernel_rfl) rfl (f_frame g1 B cb b (hB.mono hg1) (by omega)) (by decide) rfl ?_
        rintro v_ g2 m_ hg2 ⟨rfl, A', c', rfl, hr'⟩
        conv => whnf
        refine OAnd.mk ⟨rfl, rfl, rfl, rfl, trivial⟩ ?_
        conv => whnf
        conv => whnf
        refine OAnd.mk ⟨rfl, rfl, rfl, rfl, trivial⟩ ?_
        conv => whnf
        refine OOK.call [] rfl rfl rfl (by kernel_rfl) rfl (f_repl g2 db A' (frameL b).length c') (by decide) rfl ?_
        rintro v_ g3 m_ hg3 ⟨rfl, cb2, bx, bo, bn, bb, rfl, hC, hx, ho, hn, hbb⟩
        conv => whnf
        refine ⟨⟨rfl, rfl, rfl, rfl, trivial⟩, ?_⟩
        conv => whnf
        refine OOK.call [0, 2, 3] rfl rfl rfl (by kernel_rfl) rfl (f_jchange g3 jb db mb A rs.length c d B b.length cb (some ⟨cb2, 0, none⟩) 3 3 _ (by omega) (steps_repl g3 (jBox jb db A rs.length c false) db mb bx bo bn bb d hx ho hn A' c' (frameL b) hbb (hr'.mono hg3) (by rw [frame_len]; omega) f l q hs (hl.mono ((hg1.trans hg2).trans hg3)) (some ⟨cb2, 0, none⟩) 3 hC)) (by decide) rfl ?_
        rintro v_ g4 m_ hg4 ⟨cd, d', rfl, rfl, hR⟩
        conv => whnf
        refine ⟨⟨rfl, rfl, rfl, rfl, trivial⟩, ?_⟩
        conv => whnf
        exact ⟨(cd, d'), [0, 1, 2, 3], Sub.of (by decide) rfl ⟨rfl, rfl, rfl, trivial⟩, hR⟩
    · skip
      refine OAnd.mk ?_ ?_
      · conv => whnf
        conv => whnf
        refine OAnd.mk ⟨rfl, rfl, rfl, rfl, trivial⟩ ?_
        conv => whnf
        refine OAnd.mk ?_ ?_
        · conv => whnf
          conv => whnf
          refine OAnd.mk ⟨rfl, rfl, rfl, rfl, trivial⟩ ?_
          conv => whnf
          refine OOK.call [] rfl rfl rfl (by kernel_rfl) rfl (f_frame g1 B cb b (hB.mono hg1) (by omega)) (by decide) rfl ?_
          rintro v_ g2 m_ hg2 ⟨rfl, A', c', rfl, hr'⟩
          conv => whnf
          refine OAnd.mk ⟨rfl, rfl, rfl, rfl, trivial⟩ ?_
          conv => whnf
          refine OOK.call [] rfl rfl rfl (by kernel_rfl) rfl (f_repl g2 db A' (frameL b).length c') (by decide) rfl ?_
          rintro v_ g3 m_ hg3 ⟨rfl, cb2, bx, bo, bn, bb, rfl, hC, hx, ho, hn, hbb⟩
          conv => whnf
          refine ⟨⟨rfl, rfl, rfl, rfl, trivial⟩, ?_⟩
          conv => whnf
          refine OOK.call [0, 2, 3] rfl rfl rfl (by kernel_rfl) rfl (f_jchange g3 jb db mb A rs.length c d B b.length cb (some ⟨cb2, 0, none⟩) 3 3 _ (by omega) (steps_repl g3 (jBox jb db A rs.length c false) db mb bx bo bn bb d hx ho hn A' c' (frameL b) hbb (hr'.mono hg3) (by rw [frame_len]; omega) f l q hs (hl.mono ((hg1.trans hg2).trans hg3)) (some ⟨cb2, 0, none⟩) 3 hC)) (by decide) rfl ?_
          rintro v_ g4 m_ hg4 ⟨cd, d', rfl, rfl, hR⟩
          conv => whnf
          refine ⟨⟨rfl, rfl, rfl, rfl, trivial⟩, ?_⟩
          conv => whnf
          exact ⟨(cd, d'), [0, 1, 2, 3], Sub.of (by decide) rfl ⟨rfl, rfl, rfl, trivial⟩, hR⟩
        · skip
          conv => whnf
          refine OOK.call [] rfl rfl rfl (by kernel_rfl) rfl (f_frame g1 B cb b (hB.mono hg1) (by omega)) (by decide) rfl ?_
          rintro v_ g2 m_ hg2 ⟨rfl, A', c', rfl, hr'⟩
          conv => whnf
          refine OAnd.mk ⟨rfl, rfl, rfl, rfl, trivial⟩ ?_
          conv => whnf
          conv => whnf
          refine OAnd.mk ⟨rfl, rfl, rfl, rfl, trivial⟩ ?_
          conv => whnf
          refine OOK.call [] rfl rfl rfl (by kernel_rfl) rfl (f_repl g2 db A' (frameL b).length c') (by decide) rfl ?_
          rintro v_ g3 m_ hg3 ⟨rfl, cb2, bx, bo, bn, bb, rfl, hC, hx, ho, hn, hbb⟩
          conv => whnf
          refine ⟨⟨rfl, rfl, rfl, rfl, trivial⟩, ?_⟩
          conv => whnf
          refine OOK.call [0, 2, 3] rfl rfl rfl (by kernel_rfl) rfl (f_jchange g3 jb db mb A rs.length c d B b.length cb (some ⟨cb2, 0, none⟩) 3 3 _ (by omega) (steps_repl g3 (jBox jb db A rs.length c false) db mb bx bo bn bb d hx ho hn A' c' (frameL b) hbb (hr'.mono hg3) (by rw [frame_len]; omega) f l q hs (hl.mono ((hg1.trans hg2).trans hg3)) (some ⟨cb2, 0, none⟩) 3 hC)) (by decide) rfl ?_
          rintro v_ g4 m_ hg4 ⟨cd, d', rfl, rfl, hR⟩
          conv => whnf
          refine ⟨⟨rfl, rfl, rfl, rfl, trivial⟩, ?_⟩
          conv => whnf
          exact ⟨(cd, d'), [0, 1, 2, 3], Sub.of (by decide) rfl ⟨rfl, rfl, rfl, trivial⟩, hR⟩
      · skip
        conv => whnf
        refine OOK.call [] rfl rfl rfl (by kernel_rfl) rfl (f_frame g1 B cb b (hB.mono hg1) (by omega)) (by decide) rfl ?_
        rintro v_ g2 m_ hg2 ⟨rfl, A', c', rfl, hr'⟩
        conv => whnf
        refine OAnd.mk ⟨rfl, rfl, rfl, rfl, trivial⟩ ?_
        conv => whnf
        refine OAnd.mk ?_ ?_
        · conv => whnf
          conv => whnf
          refine OAnd.mk ⟨rfl, rfl, rfl, rfl, trivial⟩ ?_
          conv => whnf
          conv => whnf
          refine OAnd.mk ⟨rfl, rfl, rfl, rfl, trivial⟩ ?_
          conv => whnf
          refine OOK.call [] rfl rfl rfl (by kernel_rfl) rfl (f_repl g2 db A' (frameL b).length c') (by decide) rfl ?_
          rintro v_ g3 m_ hg3 ⟨rfl, cb2, bx, bo, bn, bb, rfl, hC, hx, ho, hn, hbb⟩
          conv => whnf
          refine ⟨⟨rfl, rfl, rfl, rfl, trivial⟩, ?_⟩
          conv => whnf
          refine OOK.call [0, 2, 3] rfl rfl rfl (by kernel_rfl) rfl (f_jchange g3 jb db mb A rs.length c d B b.length cb (some ⟨cb2, 0, none⟩) 3 3 _ (by omega) (steps_repl g3 (jBox jb db A rs.length c false) db mb bx bo bn bb d hx ho hn A' c' (frameL b) hbb (hr'.mono hg3) (by rw [frame_len]; omega) f l q hs (hl.mono ((hg1.trans hg2).trans hg3)) (some ⟨cb2, 0, none⟩) 3 hC)) (by decide) rfl ?_
          rintro v_ g4 m_ hg4 ⟨cd, d', rfl, rfl, hR⟩
          conv => whnf
          refine ⟨⟨rfl, rfl, rfl, rfl, trivial⟩, ?_⟩
          conv => whnf
          exact ⟨(cd, d'), [0, 1, 2, 3], Sub.of (by decide) rfl ⟨rfl, rfl, rfl, trivial⟩, hR⟩
        · skip
          conv => whnf
          conv => whnf
          refine OAnd.mk ⟨rfl, rfl, rfl, rfl, trivial⟩ ?_
          conv => whnf
          conv => whnf
          refine OAnd.mk ⟨rfl, rfl, rfl, rfl, trivial⟩ ?_
          conv => whnf
          refine OOK.call [] rfl rfl rfl (by kernel_rfl) rfl (f_repl g2 db A' (frameL b).length c') (by decide) rfl ?_
          rintro v_ g3 m_ hg3 ⟨rfl, cb2, bx, bo, bn, bb, rfl, hC, hx, ho, hn, hbb⟩
          conv => whnf
          refine ⟨⟨rfl, rfl, rfl, rfl, trivial⟩, ?_⟩
          conv => whnf
          refine OOK.call [0, 2, 3] rfl rfl rfl (by kernel_rfl) rfl (f_jchange g3 jb db mb A rs.length c d B b.length cb (some ⟨cb2, 0, none⟩) 3 3 _ (by omega) (steps_repl g3 (jBox jb db A rs.length c false) db mb bx bo bn bb d hx ho hn A' c' (frameL b) hbb (hr'.mono hg3) (by rw [frame_len]; omega) f l q hs (hl.mono ((hg1.trans hg2).trans hg3)) (some ⟨cb2, 0, none⟩) 3 hC)) (by decide) rfl ?_
          rintro v_ g4 m_ hg4 ⟨cd, d', rfl, rfl, hR⟩
          conv => whnf
          refine ⟨⟨rfl, rfl, rfl, rfl, trivial⟩, ?_⟩
          conv => whnf
          exact ⟨(cd, d'), [0, 1, 2, 3], Sub.of (by decide) rfl ⟨rfl, rfl, rfl, trivial⟩, hR⟩
  rintro ⟨cd, d'⟩ g2 hg2 hR
  simp only at hR
  conv => whnf
  rcases hR with ⟨rfl, hR⟩ | ⟨hne, hR⟩
  · refine ⟨fun _ => ?_, fun q => absurd q (by show ¬ (((0 : Int) == 0) = false); decide)⟩
    conv => whnf
    refine OOK.call [] rfl rfl rfl (by kernel_rfl) rfl (f_cloneR g2 B cb b (hB.mono (hg1.trans hg2)) (by omega)) (by decide) rfl ?_
    rintro v_ g3 m_ hg3 ⟨rfl, A3, c3, rfl, hc3, hr3⟩
    conv => whnf
    intro rb
    conv => whnf
    have hR3 : PR f l (frameL b) q 3 d' g3 := by
      obtain ⟨fi, e1, e2, e3⟩ := hR
      exact ⟨fi, e1, e2, e3.mono hg3⟩
    exact .mk ⟨_, [0, 1, 2, 3, 4], _, rfl, by decide, rfl, ⟨rfl, rfl, rfl, rfl, trivial⟩, .inr ⟨d', ⟨rb, .cells ([(⟨A3, c3, b⟩ : Rec)].flatMap Rec.enc ++ []) 22 (0, 0)⟩, some ⟨rb, 0, none⟩, 1, ⟨A3, c3, b⟩, rfl, hR3, .own rb 1 [] rfl (Nat.le_refl _), rfl, hr3, rfl⟩⟩
  · obtain rfl : cd = 28 := hR.1
    refine ⟨fun q => absurd q (by show ¬ (((28 : Int) == 0) = true); decide), fun _ => ?_⟩
    conv => whnf
    exact .mk ⟨_, [0, 1, 2, 3], _, rfl, by decide, rfl, ⟨rfl, rfl, rfl, rfl, trivial⟩, .inl ⟨d', rfl, hR, rfl⟩⟩
end Go.Proofs.Ytkkefknmahnjnaa
