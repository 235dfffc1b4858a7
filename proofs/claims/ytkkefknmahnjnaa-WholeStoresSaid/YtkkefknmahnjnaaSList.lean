/- WholeStores: the list beside the journal. -/
import Derived.Test.YtkkefknmahnjnaaSRead
import Derived.Test.YtkkefknmahnjnaaSApp
set_option linter.unusedVariables false
set_option linter.unusedSimpArgs false
set_option maxRecDepth 100000
namespace Go.Proofs.Ytkkefknmahnjnaa
open Go Go.SX

/-- Whether one more change is performed; what is left; whether it has stopped. -/
def chg (fuse : Int) (dead : Bool) : Bool × Int × Bool := if dead = true ∨ fuse = 0 then (false, fuse, true) else (true, if fuse > 0 then fuse - 1 else fuse, dead)
theorem f_schange (g : GH) (sb : Nat) (fuse : Int) (dead : Bool) (A : Option Addr) (n c : Nat) (B : Option Addr) (k d : Nat) (h1 : fuse ≤ 1000) (h0 : -1000 ≤ fuse) :
    Tri Try.prog 25 [.pointer (some ⟨sb, 0, none⟩)] g [sBox sb fuse dead A n c B k d] fun v g' m' => v = .bool (chg fuse dead).1 ∧ m' = [sBox sb (chg fuse dead).2.1 (chg fuse dead).2.2 A n c B k d] := by
  refine Tri.vc [.own 0 0] Try.func25 rfl Try.ntmps25 rfl rfl ?_
  conv => whnf
  refine ⟨fun q => ?_, fun q => ?_⟩
  · conv => whnf
    have : chg fuse dead = (false, fuse, true) := by unfold chg; rw [if_pos (.inl q)]
    exact .mk ⟨_, [0], _, rfl, by decide, rfl, ⟨rfl, trivial⟩, by rw [this]; rfl, by rw [this]; rfl⟩
  · conv => whnf
    refine ⟨fun q2 => ?_, fun q2 => ?_⟩
    · conv => whnf
      have : chg fuse dead = (false, fuse, true) := by unfold chg; rw [if_pos (.inr (eq_of_beq q2))]
      exact .mk ⟨_, [0], _, rfl, by decide, rfl, ⟨rfl, trivial⟩, by rw [this]; rfl, by rw [this]; rfl⟩
    · have hne : fuse ≠ 0 := by simpa using q2
      have hc : chg fuse dead = (true, if fuse > 0 then fuse - 1 else fuse, dead) := by
        unfold chg; rw [if_neg]; rintro (h | h)
        · rw [show dead = false from q] at h; cases h
        · exact hne h
      conv => whnf
      refine ⟨fun q3 => ?_, fun q3 => ?_⟩
      · conv => whnf
        refine .mk ⟨_, [0], _, rfl, by decide, rfl, ⟨rfl, trivial⟩, by rw [hc]; rfl, ?_⟩
        rw [hc]
        simp only
        rw [if_pos (of_decide_eq_true q3), i64_in (by omega) (by omega)]
        rfl
      · conv => whnf
        refine .mk ⟨_, [0], _, rfl, by decide, rfl, ⟨rfl, trivial⟩, by rw [hc]; rfl, ?_⟩
        rw [hc]
        simp only
        rw [if_neg (of_decide_eq_false q3)]
theorem chg_rng {fuse : Int} {dead : Bool} (h1 : fuse ≤ 1000) (h0 : -1000 ≤ fuse) : (chg fuse dead).2.1 ≤ 1000 ∧ -1000 ≤ (chg fuse dead).2.1 := by
  unfold chg
  split
  · exact ⟨h1, h0⟩
  · simp only
    split <;> omega
/-- Adding a record. -/
theorem f_add (g : GH) (sb : Nat) (fuse : Int) (dead : Bool) (hs : List Rec) (s : Slot) (A : Option Addr) (c : Nat) (B : Option Addr) (k d : Nat) (r : Rec) (h1 : fuse ≤ 1000) (h0 : -1000 ≤ fuse) (hO : OwnAt 22 1 Rec.enc hs s A c) (hl : hs.length ≤ 1000) :
    Tri Try.prog 13 [.pointer (some ⟨sb, 0, none⟩), .slice r.A r.l.length r.c] g [sBox sb fuse dead A hs.length c B k d, s] fun v g' m' =>
      ((chg fuse dead).1 = false ∧ v = .bool false ∧ m' = [sBox sb (chg fuse dead).2.1 (chg fuse dead).2.2 A hs.length c B k d, s]) ∨
      ((chg fuse dead).1 = true ∧ (chg (chg fuse dead).2.1 (chg fuse dead).2.2).1 = false ∧ v = .bool false ∧ ∃ B' d', Row g' Rec.enc B' [r] ∧ m' = [sBox sb (chg (chg fuse dead).2.1 (chg fuse dead).2.2).2.1 (chg (chg fuse dead).2.1 (chg fuse dead).2.2).2.2 A hs.length c B' 1 d', s]) ∨
      ((chg fuse dead).1 = true ∧ (chg (chg fuse dead).2.1 (chg fuse dead).2.2).1 = true ∧ v = .bool true ∧ ∃ s' A' c', OwnAt 22 1 Rec.enc (hs ++ [r]) s' A' c' ∧ m' = [sBox sb (chg (chg fuse dead).2.1 (chg fuse dead).2.2).2.1 (chg (chg fuse dead).2.1 (chg fuse dead).2.2).2.2 A' (hs ++ [r]).length c' B k d, ⟨s.b, .dead⟩, s']) := by
  obtain ⟨r1, r2⟩ := chg_rng (dead := dead) h1 h0
  refine Tri.vc [.own 0 0, .val (.slice r.A r.l.length r.c)] Try.func13 rfl Try.ntmps13 rfl rfl ?_
  conv => whnf
  refine OOK.call [0] rfl rfl rfl (by kernel_rfl) rfl (f_schange g sb fuse dead A hs.length c B k d h1 h0) (by decide) rfl ?_
  rintro v_ g1 m_ hg1 ⟨rfl, rfl⟩
  generalize chg fuse dead = x1 at r1 r2 ⊢
  obtain ⟨b1, f1, d1⟩ := x1
  simp only at r1 r2 ⊢
  conv => whnf
  cases b1 with
  | false =>
    refine ⟨fun _ => ?_, fun q => absurd q (by decide)⟩
    conv => whnf
    exact .mk ⟨_, [0, 1], _, rfl, by decide, rfl, ⟨rfl, rfl, trivial⟩, .inl ⟨by simp, rfl, rfl⟩⟩
  | true =>
    refine ⟨fun q => absurd q (by decide), fun _ => ?_⟩
    conv => whnf
    refine OOK.call [0] rfl rfl rfl (by kernel_rfl) rfl (f_schange g1 sb f1 d1 A hs.length c B k d r1 r2) (by decide) rfl ?_
    rintro v_ g2 m_ hg2 ⟨rfl, rfl⟩
    generalize chg f1 d1 = x2
    obtain ⟨b2, f2, d2⟩ := x2
    simp only
    conv => whnf
    cases b2 with
    | false =>
      refine ⟨fun _ => ?_, fun q => absurd q (by decide)⟩
      conv => whnf
      intro pb
      conv => whnf
      refine .freeze 2 rfl rfl fun g4 hg4 hb4 => ?_
      refine .mk ⟨_, [0, 1], _, rfl, by decide, rfl, ⟨rfl, rfl, trivial⟩, .inr (.inl ⟨by simp, by simp, rfl, some ⟨pb, 0, none⟩, 1, ?_, rfl⟩)⟩
      exact row_of (l := [r]) (rest := []) (el := 22) hb4
    | true =>
      refine ⟨fun q => absurd q (by decide), fun _ => ?_⟩
      conv => whnf
      intro pb
      conv => whnf
      refine OOK.appendRowB r 1 Rec.len rfl rfl rfl rfl (.inl ⟨_, rfl⟩) rfl (size := 1) (bytes := 24) rfl rfl rfl (by decide) rfl rfl hO
        (Src.own (i := 2) (q := 0) (cs := r.enc) (t := 22) (fr := (0, 0)) rfl rfl (fun j v hj => by simpa using hj)) (Rec.one _) (by omega) ?_
      intro s' A' c' hO'
      conv => whnf
      refine .mk ⟨_, [0, 1, 3], _, rfl, by decide, rfl, ⟨rfl, rfl, trivial⟩, .inr (.inr ⟨by simp, by simp, rfl, s', A', c', hO', ?_⟩)⟩
      rw [List.length_append]
      rfl
end Go.Proofs.Ytkkefknmahnjnaa
