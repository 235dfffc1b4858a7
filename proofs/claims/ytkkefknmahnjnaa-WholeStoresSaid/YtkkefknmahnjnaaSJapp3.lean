/- WholeStores: the journal's Append. -/
import Derived.Test.YtkkefknmahnjnaaSJapp2
set_option linter.unusedVariables false
set_option linter.unusedSimpArgs false
set_option maxRecDepth 100000
namespace Go.Proofs.Ytkkefknmahnjnaa
open Go Go.SX

theorem f_japp (g : GH) (jb db mb : Nat) (rs : List Rec) (s : Slot) (A : Option Addr) (c : Nat) (d : Dk) (B : Option Addr) (b : List UInt8) (cb : Nat) (hB : Row g encB B b) (hbl : b.length ≤ 10000) (f : Int) (l : List UInt8) (q : Nat) (hs : Sim f false d) (hl : LogF g d l q) (hlen : (l ++ frameL b).length ≤ 20000)
    (hO : OwnAt 22 1 Rec.enc rs s A c) (hrs : rs.length ≤ 1000) :
    Tri Try.prog 14 [.pointer (some ⟨jb, 0, none⟩), .slice B b.length cb] g [jBox jb db A rs.length c false, s, dBox db mb d, mBox mb d] fun v g' m' =>
      (∃ d', v = .int .i64 28 ∧ QA f l (frameL b) q 28 d' g' ∧ m' = [jBox jb db A rs.length c true, s, dBox db mb d', mBox mb d']) ∨
      (∃ d' s' A' c' r, v = .int .i64 0 ∧ PA f l (frameL b) q 2 d' g' ∧ OwnAt 22 1 Rec.enc (rs ++ [r]) s' A' c' ∧ r.l = b ∧ Row g' encB r.A r.l ∧ m' = [jBox jb db A' (rs ++ [r]).length c' false, ⟨s.b, .dead⟩, dBox db mb d', mBox mb d', s']) := by
  refine Tri.vc [.own 0 0, .val (.slice B b.length cb)] Try.func14 rfl Try.ntmps14 rfl rfl ?_
  conv => whnf
  intro bj
  conv => whnf
  intro bb
  conv => whnf
  refine OOK.call [0] rfl rfl rfl (by kernel_rfl) rfl (f_nothing g jb db A rs.length c false) (by decide) rfl ?_
  rintro v_ g1 m_ hg1 ⟨rfl, rfl⟩
  conv => whnf
  refine ⟨(by intro q; cases q), fun _ => ?_⟩
  conv => whnf
  intro cc
  conv => whnf
  refine OOK.freeze 4 rfl rfl fun g2 hg2 hj => ?_
  refine OOK.freeze 5 rfl rfl fun g3 hg3 hb3 => ?_
  refine OOK.freeze 6 rfl rfl fun g4 hg4 hc4 => ?_
  have hg14 : g.le g4 := ((hg1.trans hg2).trans hg3).trans hg4
  have hB4 := hB.mono hg14
  refine OOK.call [0, 2, 3] rfl rfl rfl (by kernel_rfl) rfl (f_jchange g4 jb db mb A rs.length c d B b.length cb (some ⟨cc, 0, none⟩) 2 2 _ (by omega) (steps_app g4 jb db mb bj bb A rs.length c false d ⟨_, hg4 _ _ (hg3 _ _ hj)⟩ B cb b ⟨_, hg4 _ _ hb3⟩ hB4 hbl f l q hs (hl.mono hg14) hlen (some ⟨cc, 0, none⟩) 2 (row_of (l := ([(30, #[.pointer (some ⟨bj, 0, none⟩), .pointer (some ⟨bb, 0, none⟩)]), (32, #[.pointer (some ⟨bj, 0, none⟩)])] : List Clo)) (rest := []) (el := 60) hc4))) (by decide) rfl ?_
  rintro v_ g5 m_ hg5 ⟨cd, d', rfl, rfl, hR⟩
  conv => whnf
  rcases hR with ⟨rfl, hR⟩ | ⟨hne, hR⟩
  · refine ⟨fun _ => ?_, fun q => absurd q (by decide)⟩
    conv => whnf
    have hbj : Bx g5 bj (.pointer (some ⟨jb, 0, none⟩)) := ⟨_, hg5 _ _ (hg4 _ _ (hg3 _ _ hj))⟩
    have hbb : Bx g5 bb (.slice B b.length cb) := ⟨_, hg5 _ _ (hg4 _ _ hb3)⟩
    refine COK.weaken (E := [(2, .val (.pointer (some ⟨bj, 0, none⟩))), (3, .val (.pointer (some ⟨bb, 0, none⟩))), (5, .val (.int .i64 0))]) (M := [jBox jb db A rs.length c false, s, dBox db mb d', mBox mb d']) (is := [0, 1, 2, 3]) (Sub.of (by decide) rfl ⟨rfl, rfl, rfl, trivial⟩) ?_
    refine COK.drawL [4] [] (by kernel_rfl) (by kernel_rfl) ?_
    conv => whnf
    refine YN.load rfl rfl rfl hbj.cell ?_
    conv => whnf
    refine YN.load rfl rfl rfl hbj.cell ?_
    conv => whnf
    refine YN.load rfl rfl rfl hbb.cell ?_
    conv => whnf
    refine OAnd.mk ?_ ?_
    · conv => whnf
      refine OOK.yn (YN.loadOwn (v := .slice A rs.length c) 0 rfl rfl rfl rfl rfl ?_)
      conv => whnf
      refine OAnd.mk ⟨rfl, rfl, rfl, rfl, trivial⟩ ?_
      conv => whnf
      refine OOK.call [] rfl rfl rfl (by kernel_rfl) rfl (f_cloneR g5 B cb b (hB4.mono hg5) (by omega)) (by decide) rfl ?_
      rintro v_ g6 m_ hg6 ⟨rfl, A5, c5, rfl, hc5, hr5⟩
      conv => whnf
      refine OAnd.mk ⟨rfl, rfl, rfl, rfl, trivial⟩ ?_
      conv => whnf
      intro vb
      conv => whnf
      refine OAnd.mk ⟨rfl, rfl, rfl, rfl, trivial⟩ ?_
      conv => whnf
      refine OOK.appendRowB ⟨A5, c5, b⟩ 1 Rec.len rfl rfl rfl rfl (.inl ⟨_, rfl⟩) rfl (size := 1) (bytes := 24) rfl rfl rfl (by decide) rfl rfl hO (Src.own (i := 4) (q := 0) (cs := Rec.enc ⟨A5, c5, b⟩) (t := 22) (fr := (0, 0)) rfl rfl (fun j v hj => by simpa using hj)) (Rec.one _) (by omega) ?_
      intro s' A' c' hO'
      conv => whnf
      refine ⟨⟨rfl, rfl, rfl, rfl, trivial⟩, ?_⟩
      conv => whnf
      refine OOK.storeVal (b := jb) (q := 0 + 2) (v := .slice A' (rs.length + 1) c') 0 rfl rfl rfl rfl rfl rfl rfl (by show 3 ≤ 4; decide) ?_
      conv => whnf
      refine ⟨⟨rfl, rfl, rfl, rfl, trivial⟩, ?_⟩
      conv => whnf
      have hR6 : PA f l (frameL b) q 2 d' g6 := by obtain ⟨e1, e2, e3, e4, e5, e6⟩ := hR; exact ⟨e1, e2, e3, e4, e5, e6.mono hg6⟩
      exact .mk ⟨_, [0, 1, 2, 3, 5], _, rfl, by decide, rfl, ⟨rfl, rfl, rfl, rfl, trivial⟩, .inr ⟨d', s', A', c', ⟨A5, c5, b⟩, rfl, hR6, hO', rfl, hr5, by rw [List.length_append]; rfl⟩⟩
    · skip
      conv => whnf
      refine OOK.call [] rfl rfl rfl (by kernel_rfl) rfl (f_cloneR g5 B cb b (hB4.mono hg5) (by omega)) (by decide) rfl ?_
      rintro v_ g6 m_ hg6 ⟨rfl, A5, c5, rfl, hc5, hr5⟩
      conv => whnf
      refine OAnd.mk ⟨rfl, rfl, rfl, rfl, trivial⟩ ?_
      conv => whnf
      refine OAnd.mk ?_ ?_
      · conv => whnf
        refine OOK.yn (YN.loadOwn (v := .slice A rs.length c) 0 rfl rfl rfl rfl rfl ?_)
        conv => whnf
        refine OAnd.mk ⟨rfl, rfl, rfl, rfl, trivial⟩ ?_
        conv => whnf
        intro vb
        conv => whnf
        refine OAnd.mk ⟨rfl, rfl, rfl, rfl, trivial⟩ ?_
        conv => whnf
        refine OOK.appendRowB ⟨A5, c5, b⟩ 1 Rec.len rfl rfl rfl rfl (.inl ⟨_, rfl⟩) rfl (size := 1) (bytes := 24) rfl rfl rfl (by decide) rfl rfl hO (Src.own (i := 4) (q := 0) (cs := Rec.enc ⟨A5, c5, b⟩) (t := 22) (fr := (0, 0)) rfl rfl (fun j v hj => by simpa using hj)) (Rec.one _) (by omega) ?_
        intro s' A' c' hO'
        conv => whnf
        refine ⟨⟨rfl, rfl, rfl, rfl, trivial⟩, ?_⟩
        conv => whnf
        refine OOK.storeVal (b := jb) (q := 0 + 2) (v := .slice A' (rs.length + 1) c') 0 rfl rfl rfl rfl rfl rfl rfl (by show 3 ≤ 4; decide) ?_
        conv => whnf
        refine ⟨⟨rfl, rfl, rfl, rfl, trivial⟩, ?_⟩
        conv => whnf
        have hR6 : PA f l (frameL b) q 2 d' g6 := by obtain ⟨e1, e2, e3, e4, e5, e6⟩ := hR; exact ⟨e1, e2, e3, e4, e5, e6.mono hg6⟩
        exact .mk ⟨_, [0, 1, 2, 3, 5], _, rfl, by decide, rfl, ⟨rfl, rfl, rfl, rfl, trivial⟩, .inr ⟨d', s', A', c', ⟨A5, c5, b⟩, rfl, hR6, hO', rfl, hr5, by rw [List.length_append]; rfl⟩⟩
      · skip
        conv => whnf
        intro vb
        conv => whnf
        refine OAnd.mk ⟨rfl, rfl, rfl, rfl, trivial⟩ ?_
        conv => whnf
        refine OOK.yn (YN.loadOwn (v := .slice A rs.length c) 0 rfl rfl rfl rfl rfl ?_)
        conv => whnf
        refine OAnd.mk ⟨rfl, rfl, rfl, rfl, trivial⟩ ?_
        conv => whnf
        refine OOK.appendRowB ⟨A5, c5, b⟩ 1 Rec.len rfl rfl rfl rfl (.inl ⟨_, rfl⟩) rfl (size := 1) (bytes := 24) rfl rfl rfl (by decide) rfl rfl hO (Src.own (i := 4) (q := 0) (cs := Rec.enc ⟨A5, c5, b⟩) (t := 22) (fr := (0, 0)) rfl rfl (fun j v hj => by simpa using hj)) (Rec.one _) (by omega) ?_
        intro s' A' c' hO'
        conv => whnf
        refine ⟨⟨rfl, rfl, rfl, rfl, trivial⟩, ?_⟩
        conv => whnf
        refine OOK.storeVal (b := jb) (q := 0 + 2) (v := .slice A' (rs.length + 1) c') 0 rfl rfl rfl rfl rfl rfl rfl (by show 3 ≤ 4; decide) ?_
        conv => whnf
        refine ⟨⟨rfl, rfl, rfl, rfl, trivial⟩, ?_⟩
        conv => whnf
        have hR6 : PA f l (frameL b) q 2 d' g6 := by obtain ⟨e1, e2, e3, e4, e5, e6⟩ := hR; exact ⟨e1, e2, e3, e4, e5, e6.mono hg6⟩
        exact .mk ⟨_, [0, 1, 2, 3, 5], _, rfl, by decide, rfl, ⟨rfl, rfl, rfl, rfl, trivial⟩, .inr ⟨d', s', A', c', ⟨A5, c5, b⟩, rfl, hR6, hO', rfl, hr5, by rw [List.length_append]; rfl⟩⟩
  · obtain rfl : cd = 28 := hR.1
    refine ⟨fun q => absurd q (by decide), fun _ => ?_⟩
    conv => whnf
    exact .mk ⟨_, [0, 1, 2, 3], _, rfl, by decide, rfl, ⟨rfl, rfl, rfl, rfl, trivial⟩, .inl ⟨d', rfl, hR, rfl⟩⟩
end Go.Proofs.Ytkkefknmahnjnaa
