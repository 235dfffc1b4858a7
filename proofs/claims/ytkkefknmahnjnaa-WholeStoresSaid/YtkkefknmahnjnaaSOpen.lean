/- WholeStores: Open. -/
import Derived.Test.YtkkefknmahnjnaaSOpn
set_option linter.unusedVariables false
set_option linter.unusedSimpArgs false
set_option maxRecDepth 100000
namespace Go.Proofs.Ytkkefknmahnjnaa
open Go Go.SX

/-- What Open finds: no file; the journal's, perhaps with the one that was to replace it. -/
def Found (g : GH) (d : Dk) (ls : List (List UInt8)) (tail : List UInt8) : Prop :=
  (d.fs = [] ∧ ls = [] ∧ tail = []) ∨ (∃ s, LogF g d (framesL ls ++ tail) s) ∨ (∃ s l' s', LogN g d (framesL ls ++ tail) s l' s')
theorem Found.fok {g d ls tail} (h : Found g d ls tail) : Fok g d := by
  rcases h with ⟨h, _⟩ | ⟨s, h⟩ | ⟨s, l', s', h⟩
  · exact fok0 h
  · exact h.fok
  · exact h.fok
theorem Found.mono {g g' : GH} {d ls tail} (h : Found g d ls tail) (k : g.le g') : Found g' d ls tail := by
  rcases h with h | ⟨s, h⟩ | ⟨s, l', s', h⟩
  · exact .inl h
  · exact .inr (.inl ⟨s, h.mono k⟩)
  · exact .inr (.inr ⟨s, l', s', h.mono k⟩)
theorem Found.log {g d ls tail} (h : Found g d ls tail) : (kLog ∈ d.fs.map FE.k ∧ ∃ f, getF kLog d.fs = some f ∧ f.l = framesL ls ++ tail) ∨ (kLog ∉ d.fs.map FE.k ∧ d.fs = [] ∧ ls = [] ∧ tail = []) := by
  rcases h with ⟨h, h2, h3⟩ | ⟨s, h⟩ | ⟨s, l', s', h⟩
  · exact .inr ⟨by rw [h]; simp, h, h2, h3⟩
  · refine .inl ⟨?_, h.get⟩
    obtain ⟨f, n, h1, _⟩ := h
    rw [h1]; simp
  · refine .inl ⟨?_, h.get2⟩
    obtain ⟨f, n, f', n', h0, h1, _⟩ := h
    rw [h1]; simp
theorem kneq : kNew ≠ kLog := by decide
theorem Found.new {g d ls tail} (h : Found g d ls tail) : (kNew ∈ d.fs.map FE.k ∧ ∃ s l' s', LogN g d (framesL ls ++ tail) s l' s') ∨ (kNew ∉ d.fs.map FE.k ∧ ((d.fs = [] ∧ ls = [] ∧ tail = []) ∨ ∃ s, LogF g d (framesL ls ++ tail) s)) := by
  rcases h with ⟨h, h2, h3⟩ | ⟨s, h⟩ | ⟨s, l', s', h⟩
  · exact .inr ⟨by rw [h]; simp, .inl ⟨h, h2, h3⟩⟩
  · refine .inr ⟨?_, .inr ⟨s, h⟩⟩
    obtain ⟨f, n, h1, _⟩ := h
    rw [h1]; simp [kneq]
  · refine .inl ⟨?_, s, l', s', h⟩
    obtain ⟨f, n, f', n', h0, h1, _⟩ := h
    rw [h1]; simp
structure Op where
  cl : List Clo
  s : Slot
  C : Option Addr
  e : Nat
set_option maxHeartbeats 4000000 in
theorem f_open (g : GH) (db mb : Nat) (d : Dk) (ls : List (List UInt8)) (tail : List UInt8) (ha : Al d) (h : Found g d ls tail) (ht : Short tail) (hls : ls.length ≤ 1000) (hl1 : ∀ l ∈ ls, l.length ≤ 65536) :
    Tri Try.prog 18 [.pointer (some ⟨db, 0, none⟩), .string kLog] g [dBox db mb d, mBox mb d] fun v g' m' =>
      ∃ (x : Rd) (jb : Nat) (d' : Dk), x.ok ls g' ∧ x.rs.length = ls.length ∧ AlF (framesL ls) (framesL ls).length d' g' ∧ v = .tuple #[.pointer (some ⟨jb, 0, none⟩), .int .i64 0] ∧ m' = [dBox db mb d', mBox mb d', x.s, jBox jb db x.A x.rs.length x.c false] := by
  refine Tri.cok [.own 0 0, .val (.string kLog)] Try.func18 rfl Try.ntmps18 rfl rfl ?_
  refine COK.seq (vcC_ok _ _ _ _ _ ?_)
  conv => whnf
  intro bx
  conv => whnf
  intro bn
  conv => whnf
  refine COK.freeze 2 rfl rfl fun g1 hg1 hx1 => ?_
  refine COK.freeze 3 rfl rfl fun g2 hg2 hn2 => ?_
  have hx : Bx g2 bx (.pointer (some ⟨db, 0, none⟩)) := ⟨_, hg2 _ _ hx1⟩
  have hn : Bx g2 bn (.string kLog) := ⟨_, hn2⟩
  refine COK.weaken (E := [(2, .val (.pointer (some ⟨bx, 0, none⟩))), (3, .val (.pointer (some ⟨bn, 0, none⟩)))]) (M := [dBox db mb d, mBox mb d]) (is := [0, 1]) (Sub.of (by decide) rfl ⟨rfl, rfl, trivial⟩) ?_
  refine COK.seq (vcC_ok _ _ _ _ _ ?_)
  conv => whnf
  refine OOK.yn (YN.load rfl rfl rfl hx.cell ?_)
  conv => whnf
  refine OOK.call [0, 1] rfl rfl rfl (by kernel_rfl) rfl (f_copy g2 db mb d (h.mono (hg1.trans hg2)).fok) (by decide) rfl ?_
  rintro v_ g3 m_ hg3 ⟨rfl, cb, rfl⟩
  conv => whnf
  refine ⟨(by intro q; cases q), fun _ => ?_⟩
  conv => whnf
  refine COK.seq (vcC_ok _ _ _ _ _ ?_)
  conv => whnf
  refine OOK.yn (YN.load rfl rfl rfl (hn.mono hg3).cell ?_)
  conv => whnf
  refine ⟨fun q => absurd (ok_log.1.symm.trans q) (by decide), fun _ => ?_⟩
  conv => whnf
  refine OOK.yn (YN.load rfl rfl rfl (hn.mono hg3).cell ?_)
  conv => whnf
  refine ⟨fun q => absurd q (by decide), fun _ => ?_⟩
  conv => whnf
  refine COK.seq (vcC_ok _ _ _ _ _ ?_)
  conv => whnf
  refine OOK.yn (YN.load rfl rfl rfl (hx.mono hg3).cell ?_)
  conv => whnf
  refine OOK.call [0] rfl rfl rfl (by kernel_rfl) rfl (f_dead g3 db mb d) (by decide) rfl ?_
  rintro v_ g4 m_ hg4 ⟨rfl, rfl⟩
  conv => whnf
  refine ⟨fun q => absurd q (by rw [ha.st]; decide), fun _ => ?_⟩
  conv => whnf
  refine COK.seq (vcC_ok _ _ _ _ _ ?_)
  conv => whnf
  refine OOK.yn (YN.load rfl rfl rfl (hx.mono (hg3.trans hg4)).cell ?_)
  conv => whnf
  have hg14 := ((hg1.trans hg2).trans hg3).trans hg4
  refine OOK.call [0, 1] rfl rfl rfl (by kernel_rfl) rfl (f_names g4 db mb d (h.mono hg14).fok) (by decide) rfl ?_
  rintro v_ g5 m_ hg5 ⟨rfl, A5, c5, rfl, hr5⟩
  conv => whnf
  refine COK.seq (vcC_ok _ _ _ _ _ ?_)
  conv => whnf
  refine OOK.yn (YN.load rfl rfl rfl (hn.mono ((hg3.trans hg4).trans hg5)).cell ?_)
  conv => whnf
  have hl2 : d.fs.length ≤ 2 := by rcases h.fok.shape with h | ⟨f, n, h⟩ | ⟨f, n, f', n', hne, h⟩ <;> rw [h] <;> simp
  refine OOK.call [] rfl rfl rfl (by kernel_rfl) rfl (f_contains g5 A5 c5 (d.fs.map FE.k) kLog hr5 (by simp; omega)) (by decide) rfl ?_
  rintro v_ g6 m_ hg6 ⟨rfl, ex, rfl, hex⟩
  conv => whnf
  refine COK.seq (vcC_ok _ _ _ _ _ ?_)
  conv => whnf
  obtain ⟨b, hb⟩ : ∃ b, b = framesL ls ++ tail := ⟨_, rfl⟩
  have hbl : b.length ≤ 20000 := by
    rcases h.log with ⟨_, f, k1, k2⟩ | ⟨_, _, rfl, rfl⟩
    · obtain ⟨e, he, rfl⟩ := get_mem kLog k1
      rw [hb, ← k2]; exact h.fok.len e he
    · subst hb; show 0 ≤ 20000; omega
  refine COK.seq (COK.cut (α := Option Addr × Nat) (fun x => [(2, .val (.pointer (some ⟨bx, 0, none⟩))), (3, .val (.pointer (some ⟨bn, 0, none⟩))), (6, .val (.slice A5 (d.fs.map FE.k).length c5)), (7, .val (.bool ex)), (8, .val (.slice x.1 b.length x.2))]) (fun x => [dBox db mb d, mBox mb d]) (fun x g => Row g encB x.1 b ∧ b.length ≤ x.2) ?_ ?_)
  · refine COK.seq (vcC_ok _ _ _ _ _ ?_)
    conv => whnf
    refine COK.cond rfl (fun q => ?_) (fun q => ?_)
    · have hin := hex.1 q
      rcases h.log with ⟨_, f, k1, k2⟩ | ⟨hno, _⟩
      · refine COK.seq (vcC_ok _ _ _ _ _ ?_)
        conv => whnf
        refine OOK.yn (YN.load rfl rfl rfl (hx.mono (((hg3.trans hg4).trans hg5).trans hg6)).cell ?_)
        conv => whnf
        refine OOK.yn (YN.load rfl rfl rfl (hn.mono (((hg3.trans hg4).trans hg5).trans hg6)).cell ?_)
        conv => whnf
        refine OOK.call [0, 1] rfl rfl rfl (by kernel_rfl) rfl (f_readF g6 db mb d kLog f k1 (h.mono (hg14.trans (hg5.trans hg6))).fok ok_log ha.st) (by decide) rfl ?_
        rintro v_ g7 m_ hg7 ⟨rfl, A', c', rfl, hc', hr'⟩
        conv => whnf
        refine vcC_ok _ _ _ _ _ ?_
        conv => whnf
        refine ⟨fun q => absurd q (by decide), fun _ => ?_⟩
        conv => whnf
        exact ⟨(A', c'), [0, 1], Sub.of (by decide) rfl ⟨rfl, rfl, rfl, rfl, by rw [hb, ← k2] <;> rfl, trivial⟩, by rw [hb, ← k2]; exact hr', by rw [hb, ← k2]; exact hc'⟩
      · exact absurd hin hno
    · refine vcC_ok _ _ _ _ _ ?_
      conv => whnf
      have hno : kLog ∉ d.fs.map FE.k := fun hh => by have := hex.2 hh; rw [this] at q; cases q
      rcases h.log with ⟨hin, _⟩ | ⟨_, _, k1, k2⟩
      · exact absurd hin hno
      · have hb0 : b = [] := by rw [hb, k1, k2]; rfl
        exact ⟨(none, 0), [0, 1], Sub.of (by decide) rfl ⟨rfl, rfl, rfl, rfl, by rw [hb0]; rfl, trivial⟩, by rw [hb0]; exact fun h => absurd rfl h, by rw [hb0]; exact Nat.le_refl _⟩
  rintro ⟨B, cb'⟩ g7 hg7 ⟨hB, hcb⟩
  simp only at hB hcb
  dsimp only
  refine COK.seq (vcC_ok _ _ _ _ _ ?_)
  conv => whnf
  refine OOK.call [] rfl rfl rfl (by kernel_rfl) rfl (f_read g7 B cb' b ls tail hb hB hcb (by omega) ht hls hl1) (by decide) rfl ?_
  rintro v_ g8 m_ hg8 ⟨x, hxo, hxl, rfl, rfl⟩
  conv => whnf
  refine COK.seq (vcC_ok _ _ _ _ _ ?_)
  conv => whnf
  refine ⟨fun q => absurd q (by decide), fun _ => ?_⟩
  conv => whnf
  refine COK.seq (vcC_ok _ _ _ _ _ ?_)
  conv => whnf
  refine COK.dummy 0 ?_
  have hg28 := ((((hg3.trans hg4).trans hg5).trans hg6).trans hg7).trans hg8
  have hr8 := hr5.mono ((hg6.trans hg7).trans hg8)
  refine COK.seq (COK.cut (α := Op) (fun y => [(2, .val (.pointer (some ⟨bx, 0, none⟩))), (3, .val (.pointer (some ⟨bn, 0, none⟩))), (7, .val (.bool ex)), (8, .val (.slice B b.length cb')), (11, .val (.slice x.A x.rs.length x.c)), (12, .val (.int .i64 (framesL ls).length)), (14, .val (.slice y.C y.cl.length y.e))]) (fun y => [dBox db mb d, mBox mb d, x.s, y.s]) (fun y g => OwnAt 60 1 encC y.cl y.s y.C y.e ∧ ((kNew ∈ d.fs.map FE.k ∧ y.cl = [cO1 bx bn]) ∨ (kNew ∉ d.fs.map FE.k ∧ y.cl = []))) ?_ ?_)
  · refine COK.seq (vcC_ok _ _ _ _ _ ?_)
    conv => whnf
    refine OOK.yn (YN.load rfl rfl rfl (hn.mono hg28).cell ?_)
    conv => whnf
    refine ⟨by decide, ?_⟩
    rw [newName]
    conv => whnf
    refine OOK.call [] rfl rfl rfl (by kernel_rfl) rfl (f_contains g8 A5 c5 (d.fs.map FE.k) kNew hr8 (by simp; omega)) (by decide) rfl ?_
    rintro v_ g9 m_ hg9 ⟨rfl, nw, rfl, hnw⟩
    conv => whnf
    refine COK.cond rfl (fun q => ?_) (fun q => ?_)
    · refine vcC_ok _ _ _ _ _ ?_
      conv => whnf
      intro sb
      conv => whnf
      refine OOK.appendRowN (el := 60) (A := none) (c := 0) (l := []) [cO1 bx bn] 3 encC_len rfl rfl rfl rfl (.inl ⟨_, rfl⟩) rfl (size := 1) (bytes := 8) rfl rfl rfl (by decide) rfl rfl (.nil 0 rfl) (Src.own (i := 4) (q := 0) (cs := [cO1 bx bn].flatMap encC) (t := 60) (fr := (0, 0)) rfl rfl (fun j v hj => by simpa using hj)) (by intro v hv; obtain rfl := List.mem_singleton.1 hv; rfl) (by show (2 * (0 + 1) + 1000) * 8 ≤ 281474976710656; omega) Nat.zero_lt_one ?_
      intro s' A' c' hO'
      conv => whnf
      exact ⟨⟨[cO1 bx bn], s', A', c'⟩, [0, 1, 2, 5], Sub.of (by decide) rfl ⟨rfl, rfl, rfl, rfl, rfl, rfl, rfl, trivial⟩, hO', .inl ⟨hnw.1 q, rfl⟩⟩
    · refine vcC_ok _ _ _ _ _ ?_
      conv => whnf
      exact ⟨⟨[], ⟨0, .dead⟩, none, 0⟩, [0, 1, 2, 3], Sub.of (by decide) rfl ⟨rfl, rfl, rfl, rfl, rfl, rfl, rfl, trivial⟩, .nil _ rfl, .inr ⟨(fun hh => by have := hnw.2 hh; rw [this] at q; cases q), rfl⟩⟩
  rintro ⟨cl, sc, C, ec⟩ g9 hg9 ⟨hOc, hcl⟩
  simp only at hOc hcl
  dsimp only
  have hg9' := hg28.trans hg9
  obtain ⟨P0, P1, hP0, hcl1, hex1⟩ : ∃ P0 P1 : Dk → GH → Prop, P0 d g9 ∧ ((cl = [] ∧ P0 = P1) ∨ (cl = [cO1 bx bn] ∧ ∃ l s l' s', P0 = AlN l s l' s' ∧ P1 = AlF l s)) ∧ ((ex = false ∧ P1 = Al0 ∧ framesL ls = []) ∨ (ex = true ∧ ∃ s, P1 = AlF b s)) := by
    have h9 := h.mono ((hg1.trans hg2).trans hg9')
    rcases hcl with ⟨hin, rfl⟩ | ⟨hno, rfl⟩
    · rcases h9.new with ⟨_, s, l', s', hl⟩ | ⟨hno, _⟩
      · refine ⟨AlN b s l' s', AlF b s, ⟨ha, by rw [hb]; exact hl⟩, .inr ⟨rfl, b, s, l', s', rfl, rfl⟩, .inr ⟨?_, s, rfl⟩⟩
        refine hex.2 ?_
        obtain ⟨f, n, f', n', h0, h1, _⟩ := hl
        rw [h1]; simp
      · exact absurd hin hno
    · rcases h9.new with ⟨hin, _⟩ | ⟨_, ⟨k1, k2, k3⟩ | ⟨s, hl⟩⟩
      · exact absurd hin hno
      · refine ⟨Al0, Al0, ⟨ha, k1⟩, .inl ⟨rfl, rfl⟩, .inl ⟨?_, rfl, by rw [k2]; rfl⟩⟩
        cases hq : ex with
        | false => rfl
        | true => have := hex.1 hq; rw [k1] at this; simp at this
      · refine ⟨AlF b s, AlF b s, ⟨ha, by rw [hb]; exact hl⟩, .inl ⟨rfl, rfl⟩, .inr ⟨?_, s, rfl⟩⟩
        refine hex.2 ?_
        obtain ⟨f, n, h1, _⟩ := hl
        rw [h1]; simp
  have hbp : b.length = (framesL ls).length + tail.length := by rw [hb, List.length_append]
  have hcll : cl.length ≤ 1 := by rcases hcl with ⟨_, h⟩ | ⟨_, h⟩ <;> rw [h] <;> simp
  refine COK.seq (COK.cut (α := Op) (fun y => [(2, .val (.pointer (some ⟨bx, 0, none⟩))), (3, .val (.pointer (some ⟨bn, 0, none⟩))), (11, .val (.slice x.A x.rs.length x.c)), (14, .val (.slice y.C y.cl.length y.e))]) (fun y => [dBox db mb d, mBox mb d, x.s, y.s]) (fun y g => OwnAt 60 1 encC y.cl y.s y.C y.e ∧ ∃ cl2, y.cl = cl ++ cl2 ∧ Todo g db bx bn (framesL ls) tail cl2 P1) ?_ ?_)
  · refine COK.block ?_
    refine COK.seq (vcC_ok _ _ _ _ _ ?_)
    conv => whnf
    refine COK.cond rfl (fun q => ?_) (fun q => ?_)
    · have hexf : ex = false := by simpa using q
      refine vcC_ok _ _ _ _ _ ?_
      conv => whnf
      intro sb
      conv => whnf
      refine OOK.appendRowN (el := 60) (l := cl) [cO2 bx bn] 3 encC_len rfl rfl rfl rfl (.inl ⟨_, rfl⟩) rfl (size := 1) (bytes := 8) rfl rfl rfl (by decide) rfl rfl hOc (Src.own (i := 4) (q := 0) (cs := [cO2 bx bn].flatMap encC) (t := 60) (fr := (0, 0)) rfl rfl (fun j v hj => by simpa using hj)) (by intro v hv; obtain rfl := List.mem_singleton.1 hv; rfl) (by show (2 * (cl.length + 1) + 1000) * 8 ≤ 281474976710656; omega) Nat.zero_lt_one ?_
      intro s' A' c' hO'
      conv => whnf
      refine ⟨⟨cl ++ [cO2 bx bn], s', A', c'⟩, [0, 1, 2, 5], Sub.of (by decide) rfl ⟨rfl, rfl, rfl, ?_, trivial⟩, hO', [cO2 bx bn], rfl, ?_⟩
      · show Value.slice A' (cl.length + 1) c' = Value.slice A' (cl ++ [_]).length c'
        rw [List.length_append]; rfl
      · rcases hex1 with ⟨_, k1, k2⟩ | ⟨k1, _⟩
        · exact .inl ⟨k1, k2, rfl⟩
        · rw [hexf] at k1; cases k1
    · have hext : ex = true := by simpa using q
      obtain ⟨s1, hP1⟩ : ∃ s, P1 = AlF b s := by
        rcases hex1 with ⟨k1, _⟩ | ⟨_, k1⟩
        · rw [hext] at k1; cases k1
        · exact k1
      refine COK.seq (vcC_ok _ _ _ _ _ ?_)
      conv => whnf
      refine COK.cond rfl (fun q2 => ?_) (fun q2 => ?_)
      · have ht0 : tail = [] := List.eq_nil_of_length_eq_zero (by have := of_decide_eq_true q2; omega)
        refine vcC_ok _ _ _ _ _ ?_
        conv => whnf
        intro sb
        conv => whnf
        refine OOK.appendRowN (el := 60) (l := cl) [cO3 bx bn] 3 encC_len rfl rfl rfl rfl (.inl ⟨_, rfl⟩) rfl (size := 1) (bytes := 8) rfl rfl rfl (by decide) rfl rfl hOc (Src.own (i := 4) (q := 0) (cs := [cO3 bx bn].flatMap encC) (t := 60) (fr := (0, 0)) rfl rfl (fun j v hj => by simpa using hj)) (by intro v hv; obtain rfl := List.mem_singleton.1 hv; rfl) (by show (2 * (cl.length + 1) + 1000) * 8 ≤ 281474976710656; omega) Nat.zero_lt_one ?_
        intro s' A' c' hO'
        conv => whnf
        refine ⟨⟨cl ++ [cO3 bx bn], s', A', c'⟩, [0, 1, 2, 5], Sub.of (by decide) rfl ⟨rfl, rfl, rfl, ?_, trivial⟩, hO', [cO3 bx bn], rfl, ?_⟩
        · show Value.slice A' (cl.length + 1) c' = Value.slice A' (cl ++ [_]).length c'
          rw [List.length_append]; rfl
        · exact .inr (.inl ⟨ht0, ⟨s1, by rw [hP1, hb, ht0, List.append_nil]⟩, rfl⟩)
      · have hne : tail ≠ [] := fun e => by
          have := of_decide_eq_false q2
          rw [e] at hbp
          simp at hbp
          omega
        have hbne : b ≠ [] := fun e => by
          rw [e] at hbp
          have : tail.length ≠ 0 := fun e => hne (List.eq_nil_of_length_eq_zero e)
          simp at hbp
          omega
        obtain ⟨a, rfl, _⟩ := hB hbne
        refine COK.draw [] (by kernel_rfl) (by kernel_rfl) ?_
        conv => whnf
        refine YN.load rfl rfl rfl (hx.mono hg9').cell ?_
        conv => whnf
        refine YN.load rfl rfl rfl (hn.mono hg9').cell ?_
        conv => whnf
        refine ⟨⟨by omega, by omega⟩, ?_⟩
        conv => whnf
        refine OOK.call [] rfl rfl rfl (by kernel_rfl) rfl (f_repl g9 db _ _ _) (by decide) rfl ?_
        rintro v_ g10 m_ hg10 ⟨rfl, cb2, bx', bo, bn', bb, rfl, hCr, hx', ho', hn', hbb'⟩
        conv => whnf
        refine ⟨⟨rfl, rfl, rfl, rfl, trivial⟩, ?_⟩
        conv => whnf
        obtain ⟨a0, ha0, hCr'⟩ := hCr (by simp [repl])
        obtain rfl := Option.some.inj ha0
        refine OOK.appendRowN (el := 60) (l := cl) (repl bx' bo bn' bb) 3 encC_len rfl rfl rfl rfl (.inl ⟨_, rfl⟩) rfl (size := 1) (bytes := 8) rfl rfl rfl (by decide) rfl rfl hOc (Src.reads rfl hCr') (by intro v hv; obtain ⟨c1, _, hc1⟩ := List.mem_flatMap.1 hv; exact encC_one c1 v hc1) (by show (2 * (cl.length + 3) + 1000) * 8 ≤ 281474976710656; omega) (by show 0 < 3; decide) ?_
        intro s' A' c' hO'
        conv => whnf
        refine ⟨⟨rfl, rfl, rfl, rfl, trivial⟩, ?_⟩
        conv => whnf
        have hcb0 : cb' ≠ 0 := fun e => hbne (List.eq_nil_of_length_eq_zero (by omega))
        rw [if_neg hcb0] at hbb'
        have hrow := row_sub (hB.mono ((hg8.trans hg9).trans hg10)) 0 (framesL ls).length
        rw [List.drop_zero] at hrow
        have htake : b.take (framesL ls).length = framesL ls := by rw [hb, List.take_left' rfl]
        rw [htake] at hrow
        refine ⟨⟨cl ++ repl bx' bo bn' bb, s', A', c'⟩, [0, 1, 2, 4], Sub.of (by decide) rfl ⟨rfl, rfl, rfl, ?_, trivial⟩, hO', repl bx' bo bn' bb, rfl, .inr (.inr ⟨⟨b, s1, hP1⟩, by omega, bx', bo, bn', bb, _, cb', rfl, hx', ho', hn', hbb', hrow⟩)⟩
        show Value.slice A' (cl.length + 3) c' = Value.slice A' (cl ++ repl bx' bo bn' bb).length c'
        rw [List.length_append]; rfl
  rintro ⟨cl', sc', C', ec'⟩ g10 hg10 ⟨hO', cl2, hcl2, hTodo⟩
  simp only at hO' hcl2
  dsimp only
  subst hcl2
  have hpos : 0 < (cl ++ cl2).length := by
    rw [List.length_append]
    rcases hTodo with ⟨_, _, k⟩ | ⟨_, _, k⟩ | ⟨_, _, _, _, _, _, _, _, k, _⟩ <;> rw [k] <;> simp [repl]
  obtain ⟨bq, rest, rfl, rfl, hlen', hle'⟩ := hO'.live hpos
  refine COK.seq (vcC_ok _ _ _ _ _ ?_)
  conv => whnf
  refine OOK.freeze 3 rfl rfl fun g11 hg11 hC11 => ?_
  have hTodo11 : Todo g11 db bx bn (framesL ls) tail cl2 P1 := by
    rcases hTodo with k | k | ⟨k1, k2, bx', bo, bn', bb, B2, cb2, k3, k4, k5, k6, k7, k8⟩
    · exact .inl k
    · exact .inr (.inl k)
    · exact .inr (.inr ⟨k1, k2, bx', bo, bn', bb, B2, cb2, k3, k4.mono hg11, k5.mono hg11, k6.mono hg11, k7.mono hg11, k8.mono hg11⟩)
  have hg211 := (hg9'.trans hg10).trans hg11
  have hP11 : P0 d g11 := by
    have hm : g9.le g11 := hg10.trans hg11
    rcases hcl1 with ⟨_, k⟩ | ⟨_, l, s, l', s', k, _⟩
    · subst k
      rcases hex1 with ⟨_, k, _⟩ | ⟨_, s, k⟩
      · subst k; exact hP0
      · subst k; exact ⟨hP0.1, hP0.2.mono hm⟩
    · subst k; exact ⟨hP0.1, hP0.2.mono hm⟩
  refine OOK.call [3, 0, 1] rfl rfl rfl (by kernel_rfl) rfl (steps_todo g11 ⟨bq, .dead⟩ db mb bx bn (hx.mono hg211) (hn.mono hg211) _ ec' cl cl2 (framesL ls) tail d P0 P1 hTodo11 hcl1 (row_of (rest := rest) hC11) hP11) (by decide) rfl ?_
  rintro v_ g12 m_ hg12 ⟨d', rfl, rfl, hd'⟩
  conv => whnf
  refine ⟨fun q => absurd q (by decide), fun _ => ?_⟩
  conv => whnf
  refine vcC_ok _ _ _ _ _ ?_
  conv => whnf
  refine OOK.yn (YN.load rfl rfl rfl (hx.mono (hg211.trans hg12)).cell ?_)
  conv => whnf
  refine OOK.yn (YN.load rfl rfl rfl (hn.mono (hg211.trans hg12)).cell ?_)
  conv => whnf
  intro jb
  conv => whnf
  have hx12 : x.ok ls g12 := ⟨hxo.map, hxo.le, hxo.own, fun r hr => (hxo.rows r hr).mono ((((hg9.trans hg10).trans hg11).trans hg12))⟩
  exact .mk ⟨_, [0, 1, 2, 4], _, rfl, by decide, rfl, ⟨rfl, rfl, trivial⟩, x, jb, d', hx12, hxl, hd', rfl, rfl⟩
end Go.Proofs.Ytkkefknmahnjnaa
