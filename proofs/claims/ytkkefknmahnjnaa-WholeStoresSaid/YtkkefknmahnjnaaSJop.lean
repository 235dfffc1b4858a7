/- WholeStores: a journal's Append and Compact beside the list. -/
import Derived.Test.YtkkefknmahnjnaaSFs
set_option linter.unusedVariables false
set_option linter.unusedSimpArgs false
set_option maxRecDepth 100000
namespace Go.Proofs.Ytkkefknmahnjnaa
open Go Go.SX

/-- The list's count of changes beside the disk's. -/
structure Sim (fuse : Int) (dead : Bool) (d : Dk) : Prop where
  st : d.stopped = dead
  fz : (d.fused = false ∧ fuse < 0) ∨ (d.fused = true ∧ fuse = d.fuse ∧ 0 ≤ fuse)
  z : Fz d
theorem out_sim {x : Slot} {db mb : Nat} {d : Dk} {Post : Dk → GH → Prop} {v : Value} {g' : GH} {m' : Mem} {f : Int} (hs : Sim f false d) (h : Out3 x db mb d Post v g' m') :
    (chg f false = (false, f, true) ∧ v = .int .i64 28 ∧ Sim f true { d with stopped := true } ∧ m' = M3 x db mb { d with stopped := true }) ∨
    ((chg f false).1 = true ∧ (chg f false).2.2 = false ∧ v = .int .i64 0 ∧ ∃ d2, Sim (chg f false).2.1 false d2 ∧ Post d2 g' ∧ m' = M3 x db mb d2) := by
  have h1 := hs.fz
  have h2 := hs.z
  rcases h with ⟨k1, k2, rfl, rfl⟩ | ⟨k1, rfl, d2, k2, k3, k4, k5, rfl⟩
  · left
    have hf : f = 0 := by
      rcases h1 with ⟨e, _⟩ | ⟨_, e, _⟩
      · rw [k1] at e; cases e
      · rw [e, k2]
    subst hf
    exact ⟨by unfold chg; rw [if_pos (.inr rfl)], rfl, ⟨rfl, .inr ⟨k1, k2.symm, Int.le_refl _⟩, ⟨h2.lo, h2.hi⟩⟩, rfl⟩
  · right
    have hf : ¬ (false = true ∨ f = 0) := by
      rintro (h | h)
      · cases h
      · rcases h1 with ⟨_, e⟩ | ⟨e1, e2, _⟩
        · omega
        · exact k1 e1 (by rw [← e2, h])
    have hc : chg f false = (true, if f > 0 then f - 1 else f, false) := by unfold chg; rw [if_neg hf]
    rw [hc]
    refine ⟨rfl, rfl, rfl, d2, ⟨k2.trans hs.st, ?_, ?_⟩, k5, rfl⟩
    · rcases h1 with ⟨e1, e2⟩ | ⟨e1, e2, e3⟩
      · exact .inl ⟨k3.trans e1, by show (if f > 0 then f - 1 else f) < 0; rw [if_neg (by omega)]; exact e2⟩
      · have : f ≠ 0 := fun e => hf (.inr e)
        refine .inr ⟨k3.trans e1, ?_, ?_⟩
        · show (if f > 0 then f - 1 else f) = d2.fuse
          rw [if_pos (by omega), k4, if_pos e1, e2]
        · show 0 ≤ (if f > 0 then f - 1 else f)
          rw [if_pos (by omega)]; omega
    · have hlo := h2.lo
      have hhi := h2.hi
      rcases h1 with ⟨e1, e2⟩ | ⟨e1, e2, e3⟩
      · rw [if_neg (by rw [e1]; decide)] at k4
        exact ⟨by rw [k4]; exact hlo, by rw [k4]; exact hhi⟩
      · have : f ≠ 0 := fun e => hf (.inr e)
        rw [if_pos e1] at k4
        exact ⟨by rw [k4]; omega, by rw [k4]; omega⟩
/-- Behind each of the two changes by which a record is added. -/
def PA (f : Int) (l fr : List UInt8) (s : Nat) : Nat → Dk → GH → Prop
  | 0, d, g => Sim f false d ∧ LogF g d l s
  | 1, d, g => (chg f false).1 = true ∧ (chg f false).2.2 = false ∧ Sim (chg f false).2.1 false d ∧ LogF g d (l ++ fr) s
  | _, d, g => (chg f false).1 = true ∧ (chg f false).2.2 = false ∧ (chg (chg f false).2.1 false).1 = true ∧ (chg (chg f false).2.1 false).2.2 = false ∧ Sim (chg (chg f false).2.1 false).2.1 false d ∧ LogF g d (l ++ fr) (l ++ fr).length
def QA (f : Int) (l fr : List UInt8) (s : Nat) (cd : Int) (d : Dk) (g : GH) : Prop :=
  cd = 28 ∧ ((chg f false = (false, f, true) ∧ Sim f true d ∧ LogF g d l s) ∨
    ((chg f false).1 = true ∧ (chg f false).2.2 = false ∧ chg (chg f false).2.1 false = (false, (chg f false).2.1, true) ∧ Sim (chg f false).2.1 true d ∧ LogF g d (l ++ fr) s))
theorem steps_app (g : GH) (jb db mb bj bb : Nat) (A : Option Addr) (n c : Nat) (st : Bool) (d : Dk) (hj : Bx g bj (.pointer (some ⟨jb, 0, none⟩))) (B : Option Addr) (cb : Nat) (b : List UInt8) (hb : Bx g bb (.slice B b.length cb)) (hB : Row g encB B b) (hbl : b.length ≤ 10000)
    (f : Int) (l : List UInt8) (s : Nat) (hs : Sim f false d) (hl : LogF g d l s) (hlen : (l ++ frameL b).length ≤ 20000) (C : Option Addr) (e : Nat) (hC : Row g encC C [(30, #[.pointer (some ⟨bj, 0, none⟩), .pointer (some ⟨bb, 0, none⟩)]), (32, #[.pointer (some ⟨bj, 0, none⟩)])]) :
    Tri Try.prog 46 [.slice C 2 e] g (M3 (jBox jb db A n c st) db mb d) fun v g' m' => ∃ cd d', v = .int .i64 cd ∧ m' = M3 (jBox jb db A n c st) db mb d' ∧ ((cd = 0 ∧ PA f l (frameL b) s 2 d' g') ∨ (cd ≠ 0 ∧ QA f l (frameL b) s cd d' g')) := by
  refine f_steps (σ := Dk) g C e [(30, #[.pointer (some ⟨bj, 0, none⟩), .pointer (some ⟨bb, 0, none⟩)]), (32, #[.pointer (some ⟨bj, 0, none⟩)])] (fun d => M3 (jBox jb db A n c st) db mb d) (PA f l (frameL b) s) (QA f l (frameL b) s) d hC (by simp) (fun d => ⟨rfl, rfl, rfl, trivial⟩) (fun d => rfl) ?_ ⟨hs, hl⟩
  intro i d1 g1 ff cap hg1 hP hx
  match i, hx, hP with
  | 0, hx, hP =>
    simp only [List.getElem?_cons_zero, Option.some.injEq, Prod.mk.injEq] at hx
    obtain ⟨rfl, rfl⟩ := hx
    obtain ⟨hs1, hl1⟩ := hP
    refine ⟨by kernel_rfl, (f_a1 g1 jb db mb bj bb A n c st d1 (hj.mono hg1) B cb b (hb.mono hg1) (hB.mono hg1) hbl hl1.fok hs1.z hs1.st).mono fun v g' m' hg' hO => ?_⟩
    rcases out_sim hs1 hO with ⟨k1, rfl, k2, rfl⟩ | ⟨k1, k2, rfl, d2, k3, k4, rfl⟩
    · exact ⟨28, _, rfl, rfl, .inr ⟨by decide, rfl, .inl ⟨k1, k2, (hl1.mono hg').same rfl rfl⟩⟩⟩
    · exact ⟨0, d2, rfl, rfl, .inl ⟨rfl, k1, k2, k3, app_log hl1 hg' k4 hlen⟩⟩
  | 1, hx, hP =>
    simp only [List.getElem?_cons_succ, List.getElem?_cons_zero, Option.some.injEq, Prod.mk.injEq] at hx
    obtain ⟨rfl, rfl⟩ := hx
    obtain ⟨h1, h2, hs1, hl1⟩ := hP
    obtain ⟨f1, hf1, hf2⟩ := hl1.get
    refine ⟨by kernel_rfl, (f_a2 g1 jb db mb bj A n c st d1 (hj.mono hg1) f1 hf1 hs1.z hs1.st).mono fun v g' m' hg' hO => ?_⟩
    rcases out_sim hs1 hO with ⟨k1, rfl, k2, rfl⟩ | ⟨k1, k2, rfl, d2, k3, k4, rfl⟩
    · exact ⟨28, _, rfl, rfl, .inr ⟨by decide, rfl, .inr ⟨h1, h2, k1, k2, (hl1.mono hg').same rfl rfl⟩⟩⟩
    · exact ⟨0, d2, rfl, rfl, .inl ⟨rfl, h1, h2, k1, k2, k3, sync_log (hl1.mono hg') hf1 k4⟩⟩
  | i + 2, hx, hP => simp at hx
theorem run_dead : ∀ (n : Nat) (f : Int), (run n f false).2.2 = !(run n f false).1
  | 0, f => rfl
  | n + 1, f => by
    unfold run
    by_cases h : (chg f false).1 = true
    · rw [if_pos h]
      have h2 : (chg f false).2.2 = false := by
        unfold chg at h ⊢
        split
        · rename_i hh; rw [if_pos hh] at h; cases h
        · rfl
      rw [h2]
      exact run_dead n _
    · rw [if_neg h]
      unfold chg at h ⊢
      split
      · rfl
      · rename_i hh; rw [if_neg hh] at h; exact absurd rfl h
/-- Behind each of the three changes by which bytes become the file. -/
def PR (f : Int) (l b : List UInt8) (s : Nat) (i : Nat) (d : Dk) (g : GH) : Prop :=
  ∃ fi, run (3 - i) fi false = run 3 f false ∧ Sim fi false d ∧ match i with
    | 0 => LogF g d l s
    | 1 => LogN g d l s b 0
    | 2 => LogN g d l s b b.length
    | _ => LogF g d b b.length
def QR (f : Int) (l b : List UInt8) (s : Nat) (cd : Int) (d : Dk) (g : GH) : Prop :=
  cd = 28 ∧ (run 3 f false).1 = false ∧ Sim (run 3 f false).2.1 true d ∧ (LogF g d l s ∨ ∃ s', LogN g d l s b s')
theorem run_step {n : Nat} {fi : Int} (h : (chg fi false).1 = true) (h2 : (chg fi false).2.2 = false) : run (n + 1) fi false = run n (chg fi false).2.1 false := by
  show (if (chg fi false).1 = true then _ else _) = _
  rw [if_pos h, h2]
theorem run_fail {n : Nat} {fi : Int} (h : chg fi false = (false, fi, true)) : run (n + 1) fi false = (false, fi, true) := by
  show (if (chg fi false).1 = true then _ else chg fi false) = _
  rw [h]
  rfl
theorem steps_repl (g : GH) (x : Slot) (db mb bx bo bn bb : Nat) (d : Dk) (hx : Bx g bx (.pointer (some ⟨db, 0, none⟩))) (ho : Bx g bo (.string kNew)) (hn : Bx g bn (.string kLog)) (B : Option Addr) (cb : Nat) (b : List UInt8) (hb : Bx g bb (.slice B b.length cb)) (hB : Row g encB B b) (hbl : b.length ≤ 20000)
    (f : Int) (l : List UInt8) (s : Nat) (hs : Sim f false d) (hl : LogF g d l s) (C : Option Addr) (e : Nat) (hC : Row g encC C (repl bx bo bn bb)) :
    Tri Try.prog 46 [.slice C 3 e] g (M3 x db mb d) fun v g' m' => ∃ cd d', v = .int .i64 cd ∧ m' = M3 x db mb d' ∧ ((cd = 0 ∧ PR f l b s 3 d' g') ∨ (cd ≠ 0 ∧ QR f l b s cd d' g')) := by
  refine f_steps (σ := Dk) g C e (repl bx bo bn bb) (fun d => M3 x db mb d) (PR f l b s) (QR f l b s) d hC (by simp [repl]) (fun d => ⟨rfl, rfl, rfl, trivial⟩) (fun d => rfl) ?_ ⟨f, rfl, hs, hl⟩
  intro i d1 g1 ff cap hg1 hP hxx
  obtain ⟨fi, hr, hs1, hcon⟩ := hP
  match i, hxx, hcon, hr with
  | 0, hxx, hl1, hr =>
    simp only [repl, List.getElem?_cons_zero, Option.some.injEq, Prod.mk.injEq] at hxx
    obtain ⟨rfl, rfl⟩ := hxx
    simp only at hl1
    refine ⟨by kernel_rfl, (f_r1 g1 x db mb bx bo bb d1 (hx.mono hg1) (ho.mono hg1) B cb b (hb.mono hg1) (hB.mono hg1) hbl hl1.fok hs1.z hs1.st).mono fun v g' m' hg' hO => ?_⟩
    rcases out_sim hs1 hO with ⟨k1, rfl, k2, rfl⟩ | ⟨k1, k2, rfl, d2, k3, k4, rfl⟩
    · have hrf := run_fail (n := 2) k1
      rw [hr] at hrf
      exact ⟨28, _, rfl, rfl, .inr ⟨by decide, rfl, by rw [hrf], by rw [hrf]; exact k2, .inl ((hl1.mono hg').same rfl rfl)⟩⟩
    · exact ⟨0, d2, rfl, rfl, .inl ⟨rfl, (chg fi false).2.1, (run_step (n := 2) k1 k2).symm.trans hr, k3, app_new hl1 hg' k4 hbl⟩⟩
  | 1, hxx, hl1, hr =>
    simp only [repl, List.getElem?_cons_succ, List.getElem?_cons_zero, Option.some.injEq, Prod.mk.injEq] at hxx
    obtain ⟨rfl, rfl⟩ := hxx
    simp only at hl1
    obtain ⟨f1, hf1, hf2⟩ := hl1.get
    refine ⟨by kernel_rfl, (f_r2 g1 x db mb bx bo d1 (hx.mono hg1) (ho.mono hg1) f1 hf1 hs1.z hs1.st).mono fun v g' m' hg' hO => ?_⟩
    rcases out_sim hs1 hO with ⟨k1, rfl, k2, rfl⟩ | ⟨k1, k2, rfl, d2, k3, k4, rfl⟩
    · have hrf := run_fail (n := 1) k1
      rw [hr] at hrf
      exact ⟨28, _, rfl, rfl, .inr ⟨by decide, rfl, by rw [hrf], by rw [hrf]; exact k2, .inr ⟨_, (hl1.mono hg').same rfl rfl⟩⟩⟩
    · exact ⟨0, d2, rfl, rfl, .inl ⟨rfl, (chg fi false).2.1, (run_step (n := 1) k1 k2).symm.trans hr, k3, sync_new (hl1.mono hg') hf1 k4⟩⟩
  | 2, hxx, hl1, hr =>
    simp only [repl, List.getElem?_cons_succ, List.getElem?_cons_zero, Option.some.injEq, Prod.mk.injEq] at hxx
    obtain ⟨rfl, rfl⟩ := hxx
    simp only at hl1
    obtain ⟨f1, hf1, hf2⟩ := hl1.get
    refine ⟨by kernel_rfl, (f_r3 g1 x db mb bx bo bn d1 (hx.mono hg1) (ho.mono hg1) (hn.mono hg1) f1 hf1 hs1.z hs1.st).mono fun v g' m' hg' hO => ?_⟩
    rcases out_sim hs1 hO with ⟨k1, rfl, k2, rfl⟩ | ⟨k1, k2, rfl, d2, k3, ⟨k4, k5⟩, rfl⟩
    · have hrf := run_fail (n := 0) k1
      rw [hr] at hrf
      exact ⟨28, _, rfl, rfl, .inr ⟨by decide, rfl, by rw [hrf], by rw [hrf]; exact k2, .inr ⟨_, (hl1.mono hg').same rfl rfl⟩⟩⟩
    · exact ⟨0, d2, rfl, rfl, .inl ⟨rfl, (chg fi false).2.1, (run_step (n := 0) k1 k2).symm.trans hr, k3, ren_new (hl1.mono hg') hf1 k4 k5⟩⟩
  | i + 3, hxx, hl1, hr => simp [repl] at hxx
end Go.Proofs.Ytkkefknmahnjnaa
