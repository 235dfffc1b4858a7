/- WholeStores: the list's replace and crash. -/
import Derived.Test.YtkkefknmahnjnaaSList
set_option linter.unusedVariables false
set_option linter.unusedSimpArgs false
set_option maxRecDepth 100000
namespace Go.Proofs.Ytkkefknmahnjnaa
open Go Go.SX

/-- A slot's block goes to a new slot. -/
theorem COK.move {P : Program} {n : Nat} {c : Code} {e : Env} {m : Mem} {g : GH} {K : KK} (i : Nat) {s : Slot} (hi : m[i]? = some s) (h : COK P n c e (m.set i ⟨s.b, .dead⟩ ++ [s]) g K) : COK P n c e m g K := by
  refine ⟨fun a w ha hw => ?_⟩
  have hil := (List.getElem?_eq_some_iff.1 hi).1
  have key : ∀ {j : Nat} {t : Slot}, (m.set i ⟨s.b, .dead⟩ ++ [s])[j]? = some t → t.live = true → (j ≠ i ∧ j < m.length ∧ m[j]? = some t) ∨ (j = m.length ∧ t = s) := by
    intro j t hj ht
    rcases Nat.lt_or_ge j m.length with hlt | hge
    · rw [List.getElem?_append_left (by simpa using hlt)] at hj
      by_cases e : i = j
      · subst e
        rw [List.getElem?_set_self hlt] at hj
        obtain rfl := Option.some.inj hj
        simp [Slot.live, SO.ob] at ht
      · rw [List.getElem?_set_ne e] at hj
        exact .inl ⟨fun h => e h.symm, hlt, hj⟩
    · rw [List.getElem?_append_right (by simpa using hge)] at hj
      simp only [List.length_set] at hj
      rcases Nat.eq_or_lt_of_le hge with he | hg
      · subst he; simp at hj; exact .inr ⟨rfl, hj.symm⟩
      · rw [List.getElem?_eq_none (by simp; omega)] at hj; cases hj
  have hlv : ∀ b, b ∈ Mem.lives (m.set i ⟨s.b, .dead⟩ ++ [s]) → b ∈ m.lives := by
    intro b hb
    obtain ⟨t, ht, rfl, o, ho⟩ := Mem.mem_lives.1 hb
    obtain ⟨j, hj⟩ := List.mem_iff_getElem?.1 ht
    rcases key hj (live_iff.2 ⟨o, ho⟩) with ⟨_, _, hm⟩ | ⟨_, rfl⟩
    · exact Mem.mem_lives.2 ⟨t, List.mem_of_getElem? hm, rfl, o, ho⟩
    · exact Mem.mem_lives.2 ⟨t, List.mem_of_getElem? hi, rfl, o, ho⟩
  have h1 : Has w g (m.set i ⟨s.b, .dead⟩ ++ [s]) := by
    refine ⟨hw.sub, fun t ht o ho => ?_, fun j k x y hj hk hx hy hb => ?_, fun b hb => hw.apart b (hlv b hb)⟩
    · obtain ⟨j, hj⟩ := List.mem_iff_getElem?.1 ht
      rcases key hj (live_iff.2 ⟨o, ho⟩) with ⟨_, _, hm⟩ | ⟨_, rfl⟩
      · exact hw.own t (List.mem_of_getElem? hm) o ho
      · exact hw.own t (List.mem_of_getElem? hi) o ho
    · rcases key hj hx with ⟨a1, _, a2⟩ | ⟨a1, a2⟩ <;> rcases key hk hy with ⟨b1, _, b2⟩ | ⟨b1, b2⟩
      · exact hw.inj j k x y a2 b2 hx hy hb
      · subst b2; exact absurd (hw.inj j i x y a2 hi hx hy hb) a1
      · subst a2; exact absurd (hw.inj k i y x b2 hi hy hx hb.symm) b1
      · rw [a1, b1]
  have hext : m.ext (m.set i ⟨s.b, .dead⟩ ++ [s]) := (Mem.ext_set (s' := ⟨s.b, .dead⟩) hi rfl).trans (Mem.ext_append _ _)
  have h2 : Fr w m g w (m.set i ⟨s.b, .dead⟩ ++ [s]) g := ⟨rfl, rfl, rfl, Nat.le_refl _, .refl _, fun _ _ _ => rfl, fun _ _ _ => rfl, fun b _ hb hm => hb (hlv b hm)⟩
  exact wp_mono (h.ok a w (ha.ext hext) h1) fun _ _ _ hp => post_trans h2 hp
def run : Nat → Int → Bool → Bool × Int × Bool
  | 0, f, d => (true, f, d)
  | n + 1, f, d => if (chg f d).1 = true then run n (chg f d).2.1 (chg f d).2.2 else chg f d
theorem f_replaceS (g : GH) (sb : Nat) (fuse : Int) (dead : Bool) (s : Slot) (A : Option Addr) (n c : Nat) (B : Option Addr) (k d : Nat) (r : Rec) (h1 : fuse ≤ 1000) (h0 : -1000 ≤ fuse) :
    Tri Try.prog 11 [.pointer (some ⟨sb, 0, none⟩), .slice r.A r.l.length r.c] g [sBox sb fuse dead A n c B k d, s] fun v g' m' =>
      v = .bool (run 3 fuse dead).1 ∧ (((run 3 fuse dead).1 = false ∧ m' = [sBox sb (run 3 fuse dead).2.1 (run 3 fuse dead).2.2 A n c B k d, s]) ∨
      ((run 3 fuse dead).1 = true ∧ ∃ s' A' c', OwnAt 22 1 Rec.enc [r] s' A' c' ∧ m' = [sBox sb (run 3 fuse dead).2.1 (run 3 fuse dead).2.2 A' 1 c' B k d, s, s'])) := by
  refine Tri.vc [.own 0 0, .val (.slice r.A r.l.length r.c)] Try.func11 rfl Try.ntmps11 rfl rfl ?_
  conv => whnf
  refine COK.loop (α := Nat × Int × Bool) (fun x => [(0, .own 0 0), (1, .val (.slice r.A r.l.length r.c)), (5, .val (.int .i64 x.1))]) (fun x => [sBox sb x.2.1 x.2.2 A n c B k d, s]) (fun x _ => x.1 ≤ 3 ∧ run (3 - x.1) x.2.1 x.2.2 = run 3 fuse dead ∧ x.2.1 ≤ 1000 ∧ -1000 ≤ x.2.1) (fun x => 3 - x.1) (0, fuse, dead) [0, 1] (Sub.of (by decide) rfl ⟨rfl, rfl, rfl, trivial⟩) ⟨Nat.zero_le _, rfl, h1, h0⟩ ?_
  rintro ⟨i, f, dd⟩ g1 hg1 ⟨hi, hr, hf1, hf0⟩
  simp only at hi hr hf1 hf0
  obtain ⟨r1, r2⟩ := chg_rng (dead := dd) hf1 hf0
  refine vcC_ok _ _ _ _ _ ?_
  by_cases hlt : i < 3
  · conv => whnf
    refine ⟨fun _ => ?_, fun h1 => absurd (of_decide_eq_false h1) (by show ¬ ¬ ((i : Int) < 3); omega)⟩
    conv => whnf
    refine OOK.call [0] rfl rfl rfl (by kernel_rfl) rfl (f_schange g1 sb f dd A n c B k d hf1 hf0) (by decide) rfl ?_
    rintro v_ g2 m_ hg2 ⟨rfl, rfl⟩
    have hrun : run (3 - i) f dd = if (chg f dd).1 = true then run (3 - (i + 1)) (chg f dd).2.1 (chg f dd).2.2 else chg f dd := by
      rw [show 3 - i = (3 - (i + 1)) + 1 by omega]; rfl
    rw [hrun] at hr
    generalize chg f dd = x1 at r1 r2 hr ⊢
    obtain ⟨b1, f1, d1⟩ := x1
    simp only at r1 r2 hr ⊢
    conv => whnf
    cases b1 with
    | false =>
      refine ⟨fun _ => ?_, fun q => absurd q (by decide)⟩
      conv => whnf
      simp only [Bool.false_eq_true, if_false] at hr
      exact .mk ⟨_, [0, 1], _, rfl, by decide, rfl, ⟨rfl, rfl, trivial⟩, by rw [← hr] <;> rfl, .inl ⟨by rw [← hr], by rw [← hr] <;> rfl⟩⟩
    | true =>
      refine ⟨fun q => absurd q (by decide), fun _ => ?_⟩
      conv => whnf
      simp only [if_true] at hr
      exact ⟨(i + 1, f1, d1), [0, 1], Sub.of (by decide) rfl ⟨rfl, rfl, int_eq (i64_in (by show (-9223372036854775808 : Int) ≤ (i : Int) + 1; omega) (by show (i : Int) + 1 ≤ 9223372036854775807; omega)), trivial⟩, ⟨hlt, hr, r1, r2⟩, by show 3 - (i + 1) < 3 - i; omega⟩
  · have hi3 : i = 3 := by omega
    subst hi3
    conv => whnf
    refine ⟨fun h1 => absurd (of_decide_eq_true h1) (by show ¬ ((3 : Int) < 3); decide), fun _ => ?_⟩
    conv => whnf
    intro hb
    conv => whnf
    have hr' : (true, f, dd) = run 3 fuse dead := hr
    exact .mk ⟨_, [0, 1, 2], _, rfl, by decide, rfl, ⟨rfl, rfl, trivial⟩, by rw [← hr'] <;> rfl, .inr ⟨by rw [← hr'], ⟨hb, .cells ([r].flatMap Rec.enc ++ []) 22 (0, 0)⟩, some ⟨hb, 0, none⟩, 1, .own hb 1 [] rfl (Nat.le_refl _), by rw [← hr'] <;> rfl⟩⟩
def keptP (keep : Nat) (ps : List Rec) : List Rec := ps.filter fun p => decide (8 + p.l.length ≤ keep)
structure Hv where
  i : Nat
  hs : List Rec
  s : Slot
  A : Option Addr
  c : Nat
theorem f_crashS (g : GH) (sb : Nat) (fuse : Int) (dead : Bool) (hs : List Rec) (s : Slot) (A : Option Addr) (c : Nat) (B : Option Addr) (d : Nat) (ps : List Rec) (keep : Nat) (hO : OwnAt 22 1 Rec.enc hs s A c) (hB : Row g Rec.enc B ps) (hl : hs.length ≤ 1000) (hp : ps.length ≤ 1) (hpl : ∀ p ∈ ps, p.l.length ≤ 1000) (hk : keep ≤ 1000) :
    Tri Try.prog 8 [.pointer (some ⟨sb, 0, none⟩), .int .i64 keep] g [sBox sb fuse dead A hs.length c B ps.length d, s] fun v g' m' =>
      v = .tuple #[] ∧ ∃ s' A' c', OwnAt 22 1 Rec.enc (hs ++ keptP keep ps) s' A' c' ∧ m' = [sBox sb (-1) false A' (hs ++ keptP keep ps).length c' none 0 0, ⟨s.b, .dead⟩, s'] := by
  refine Tri.vc [.own 0 0, .val (.int .i64 keep)] Try.func8 rfl Try.ntmps8 rfl rfl ?_
  conv => whnf
  refine COK.move 1 rfl ?_
  refine COK.loop (α := Hv) (fun x => [(0, .own 0 0), (1, .val (.int .i64 keep)), (9, .val (.slice B ps.length d)), (10, .val (.int .i64 ps.length)), (11, .val (.int .i64 x.i))]) (fun x => [sBox sb fuse dead x.A x.hs.length x.c B ps.length d, ⟨s.b, .dead⟩, x.s])
    (fun x _ => x.i ≤ ps.length ∧ OwnAt 22 1 Rec.enc x.hs x.s x.A x.c ∧ x.hs = hs ++ keptP keep (ps.take x.i)) (fun x => ps.length - x.i) ⟨0, hs, s, A, c⟩ [0, 1, 2] (Sub.of (by decide) rfl ⟨rfl, rfl, rfl, rfl, rfl, trivial⟩) ⟨Nat.zero_le _, hO, by simp [keptP]⟩ ?_
  rintro ⟨i, hs1, s1, A1, c1⟩ g1 hg1 ⟨hi, hO1, he⟩
  simp only at hi hO1 he
  have hl1 : hs1.length ≤ 1001 := by
    rw [he, List.length_append]
    have := List.length_filter_le (fun p : Rec => decide (8 + p.l.length ≤ keep)) (ps.take i)
    unfold keptP
    rw [List.length_take] at this
    omega
  refine vcC_ok _ _ _ _ _ ?_
  by_cases hlt : i < ps.length
  · obtain ⟨p, hpp⟩ : ∃ p, ps[i]? = some p := ⟨_, List.getElem?_eq_getElem hlt⟩
    obtain ⟨a, rfl, hr⟩ := (hB.mono hg1).at_ Rec.len hpp
    have hpl1 := hpl p (List.mem_of_getElem? hpp)
    have htk : ps.take (i + 1) = ps.take i ++ [p] := by rw [List.take_add_one, hpp]; rfl
    conv => whnf
    refine ⟨fun _ => ?_, fun h1 => absurd (of_decide_eq_false h1) (by show ¬ ¬ ((i : Int) < (ps.length : Int)); omega)⟩
    conv => whnf
    refine ⟨⟨by omega, by show (i : Int) < _; omega⟩, ?_⟩
    conv => whnf
    refine OOK.yn (YN.load rfl rfl rfl (v := .slice p.A p.l.length p.c) (by have := hr 0 _ rfl; rw [addN_add, Nat.add_zero] at this; exact this) ?_)
    conv => whnf
    rw [i64_in (x := 8 + (p.l.length : Int)) (by omega) (by omega)]
    have hi1 : IntKind.i64.wrap ((i : Int) + 1) = ((i + 1 : Nat) : Int) := i64_in (by omega) (by omega)
    refine ⟨fun q => ?_, fun q => ?_⟩
    · have hkp : 8 + p.l.length ≤ keep := by have := of_decide_eq_true q; omega
      conv => whnf
      intro pb
      conv => whnf
      refine OOK.appendRowB p 2 Rec.len rfl rfl rfl rfl (.inl ⟨_, rfl⟩) rfl (size := 1) (bytes := 24) rfl rfl rfl (by decide) rfl rfl hO1
        (Src.own (i := 3) (q := 0) (cs := p.enc) (t := 22) (fr := (0, 0)) rfl rfl (fun j v hj => by simpa using hj)) (Rec.one _) (by show (2 * (hs1.length + 1) + 1000) * 24 ≤ _; omega) ?_
      intro s' A' c' hO'
      conv => whnf
      refine ⟨⟨i + 1, hs1 ++ [p], s', A', c'⟩, [0, 1, 4], Sub.of (by decide) ?_ ⟨rfl, rfl, rfl, rfl, int_eq hi1, trivial⟩, ⟨hlt, hO', ?_⟩, by show ps.length - (i + 1) < ps.length - i; omega⟩
      · show pickM _ _ = some [sBox sb fuse dead A' (hs1 ++ [p]).length c' _ _ _, _, _]
        rw [List.length_append]; rfl
      · show hs1 ++ [p] = hs ++ keptP keep (ps.take (i + 1))
        rw [he, htk]
        unfold keptP
        rw [List.filter_append]
        simp [hkp]
    · have hkp : ¬ (8 + p.l.length ≤ keep) := by have := of_decide_eq_false q; omega
      conv => whnf
      refine ⟨⟨i + 1, hs1, s1, A1, c1⟩, [0, 1, 2], Sub.of (by decide) rfl ⟨rfl, rfl, rfl, rfl, int_eq hi1, trivial⟩, ⟨hlt, hO1, ?_⟩, by show ps.length - (i + 1) < ps.length - i; omega⟩
      show hs1 = hs ++ keptP keep (ps.take (i + 1))
      rw [he, htk]
      unfold keptP
      rw [List.filter_append]
      simp [hkp]
  · conv => whnf
    refine ⟨fun h1 => absurd (of_decide_eq_true h1) (by show ¬ ((i : Int) < (ps.length : Int)); omega), fun _ => ?_⟩
    conv => whnf
    have hid : i = ps.length := by omega
    rw [hid, List.take_length] at he
    subst he
    exact .mk ⟨_, [0, 1, 2], _, rfl, by decide, rfl, ⟨rfl, rfl, trivial⟩, rfl, s1, A1, c1, hO1, rfl⟩
end Go.Proofs.Ytkkefknmahnjnaa
