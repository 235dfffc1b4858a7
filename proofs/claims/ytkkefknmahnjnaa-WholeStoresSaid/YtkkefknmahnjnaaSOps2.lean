/- WholeStores: Append, Sync, Rename, Remove, Read of a disk. -/
import Derived.Test.YtkkefknmahnjnaaSOps
set_option linter.unusedVariables false
set_option linter.unusedSimpArgs false
set_option maxRecDepth 100000
namespace Go.Proofs.Ytkkefknmahnjnaa
open Go Go.SX

/-- What a change of a disk ends in. -/
def Out (db mb : Nat) (d : Dk) (Post : Dk → GH → Prop) (v : Value) (g' : GH) (m' : Mem) : Prop :=
  (d.fused = true ∧ d.fuse = 0 ∧ v = .int .i64 28 ∧ m' = [dBox db mb { d with stopped := true }, mBox mb d]) ∨
  ((d.fused = true → d.fuse ≠ 0) ∧ v = .int .i64 0 ∧ ∃ d2 : Dk, d2.stopped = d.stopped ∧ d2.fused = d.fused ∧ d2.fuse = (if d.fused then d.fuse - 1 else d.fuse) ∧ Post d2 g' ∧ m' = [dBox db mb d2, mBox mb d2])
structure Fz (d : Dk) : Prop where
  lo : 0 ≤ d.fuse
  hi : d.fuse ≤ 1000
theorem get_mem (s : ByteArray) : ∀ {fs : List FE} {f : Fl}, getF s fs = some f → ∃ e ∈ fs, e.f = f
  | [], f, h => by cases h
  | e :: r, f, h => by
    simp only [getF] at h
    cases hb : s == e.k with
    | true => rw [hb] at h; exact ⟨e, List.mem_cons_self, Option.some.inj h⟩
    | false =>
      rw [hb] at h
      obtain ⟨x, hx, rfl⟩ := get_mem s h
      exact ⟨x, List.mem_cons_of_mem _ hx, rfl⟩
theorem Fok.old {g : GH} {d : Dk} (h : Fok g d) (nm : ByteArray) : Row g encB (oldF nm d).A (oldF nm d).l ∧ (oldF nm d).l.length ≤ 20000 := by
  unfold oldF
  cases hg : getF nm d.fs with
  | none => exact ⟨fun h => absurd rfl h, by show 0 ≤ 20000; omega⟩
  | some f =>
    obtain ⟨e, he, rfl⟩ := get_mem nm hg
    exact ⟨h.rows e he, h.len e he⟩
theorem f_append (g : GH) (db mb : Nat) (d : Dk) (nm : ByteArray) (B : Option Addr) (c : Nat) (b : List UInt8) (h : Fok g d) (hz : Fz d) (hB : Row g encB B b) (hb : b.length ≤ 20000) (hn : NameOk nm) (hd : d.stopped = false) :
    Tri Try.prog 31 [.pointer (some ⟨db, 0, none⟩), .string nm, .slice B b.length c] g [dBox db mb d, mBox mb d]
      (Out db mb d fun d2 g' => ∃ A' c', Row g' encB A' ((oldF nm d).l ++ b) ∧ ((oldF nm d).l ++ b).length ≤ c' ∧ d2.fs = (d.put nm ⟨A', c', (oldF nm d).l ++ b, (oldF nm d).safe⟩).fs ∧ d2.clock = (d.put nm ⟨A', c', (oldF nm d).l ++ b, (oldF nm d).safe⟩).clock) := by
  have htot := h.total_le
  refine Tri.vc [.own 0 0, .val (.string nm), .val (.slice B b.length c)] Try.func31 rfl Try.ntmps31 rfl rfl ?_
  conv => whnf
  intro bx
  conv => whnf
  intro bn
  conv => whnf
  intro bb
  conv => whnf
  intro nb
  conv => whnf
  refine OOK.call [0, 5] rfl rfl rfl (by kernel_rfl) rfl (f_named g db mb d ⟨nb, .cells [.string nm] 9 (0, 0)⟩ (some ⟨nb, 0, none⟩) 1 [nm] (fun _ => .inr ⟨1, nb, _, _, _, rfl, rfl, fun j v hj => hj⟩) (by simp) (by simpa using hn) hd) (by decide) rfl ?_
  rintro v_ g1 m_ hg1 ⟨rfl, rfl⟩
  conv => whnf
  refine ⟨fun q => absurd q (by decide), fun _ => ?_⟩
  conv => whnf
  refine COK.quiet (by kernel_rfl) (by kernel_rfl) ?_
  conv => whnf
  refine YN.loadOwn (v := .int .i64 4194304) 0 rfl rfl rfl rfl rfl ?_
  conv => whnf
  refine QN.call _ [0, 1] rfl rfl rfl (by kernel_rfl) rfl (f_used g1 db mb d (h.mono hg1)) (by decide) rfl (fun v g m _ h => h) ?_
  conv => whnf
  rw [i64_in (x := 4194304 - (total d.fs : Int)) (by omega) (by omega)]
  refine ⟨fun q => absurd (of_decide_eq_true q) (by omega), fun _ => ?_⟩
  conv => whnf
  refine OOK.freeze 2 rfl rfl fun g2 hg2 hx => ?_
  refine OOK.freeze 3 rfl rfl fun g3 hg3 hn3 => ?_
  refine OOK.freeze 4 rfl rfl fun g4 hg4 hb4 => ?_
  have hg14 : g1.le g4 := (hg2.trans hg3).trans hg4
  obtain ⟨hr1, hr2⟩ := (h.mono (hg1.trans hg14)).old nm
  refine OOK.call [0, 1] rfl rfl rfl (by kernel_rfl) rfl (f_change g4 db mb d 57 #[.pointer (some ⟨bx, 0, none⟩), .pointer (some ⟨bn, 0, none⟩), .pointer (some ⟨bb, 0, none⟩)] (fun d2 g' => ∃ A' c', Row g' encB A' ((oldF nm d).l ++ b) ∧ ((oldF nm d).l ++ b).length ≤ c' ∧ d2.fs = (d.put nm ⟨A', c', (oldF nm d).l ++ b, (oldF nm d).safe⟩).fs ∧ d2.clock = (d.put nm ⟨A', c', (oldF nm d).l ++ b, (oldF nm d).safe⟩).clock) (by kernel_rfl) hz.lo hz.hi (fun g' d1 hg' e1 e2 => ?_)) (by decide) rfl ?_
  · have eo : oldF nm d1 = oldF nm d := by unfold oldF; rw [e1]
    refine (f_app1 g' db mb bx bn bb d1 nm B c b ⟨_, hg' _ _ (hg4 _ _ (hg3 _ _ hx))⟩ ⟨_, hg' _ _ (hg4 _ _ hn3)⟩ ⟨_, hg' _ _ hb4⟩ (hB.mono ((hg1.trans hg14).trans hg')) (by rw [eo]; exact hr1.mono hg') (by rw [eo]; exact hr2) hb).mono ?_
    rintro v g2 m2 hg2 ⟨rfl, A', c', k1, k2, rfl⟩
    rw [eo] at k1 k2 ⊢
    refine ⟨rfl, d1.put nm ⟨A', c', (oldF nm d).l ++ b, (oldF nm d).safe⟩, rfl, rfl, rfl, ⟨A', c', k1, k2, ?_, ?_⟩, rfl⟩
    · simp only [Dk.put, e1, e2]
    · simp only [Dk.put, e1, e2]
  rintro v_ g5 m_ hg5 (⟨k1, k2, rfl, rfl⟩ | ⟨k1, rfl, d2, k2, k3, k4, k5, rfl⟩)
  · conv => whnf
    exact .mk ⟨_, [0, 1], _, rfl, by decide, rfl, ⟨rfl, rfl, trivial⟩, .inl ⟨k1, k2, rfl, rfl⟩⟩
  · conv => whnf
    exact .mk ⟨_, [0, 1], _, rfl, by decide, rfl, ⟨rfl, rfl, trivial⟩, .inr ⟨k1, rfl, d2, k2, k3, k4, k5, rfl⟩⟩
theorem f_sync (g : GH) (db mb : Nat) (d : Dk) (nm : ByteArray) (f : Fl) (hf : getF nm d.fs = some f) (hz : Fz d) (hn : NameOk nm) (hd : d.stopped = false) :
    Tri Try.prog 33 [.pointer (some ⟨db, 0, none⟩), .string nm] g [dBox db mb d, mBox mb d]
      (Out db mb d fun d2 g' => d2.fs = (d.put nm ⟨f.A, f.c, f.l, f.l.length⟩).fs ∧ d2.clock = (d.put nm ⟨f.A, f.c, f.l, f.l.length⟩).clock) := by
  refine Tri.vc [.own 0 0, .val (.string nm)] Try.func33 rfl Try.ntmps33 rfl rfl ?_
  conv => whnf
  intro bx
  conv => whnf
  intro bn
  conv => whnf
  refine OOK.call [0, 1] rfl rfl rfl (by kernel_rfl) rfl (f_existing0 g db mb d nm f hf hn hd) (by decide) rfl ?_
  rintro v_ g1 m_ hg1 ⟨rfl, rfl⟩
  conv => whnf
  intro bf
  conv => whnf
  refine ⟨fun q => absurd q (by decide), fun _ => ?_⟩
  conv => whnf
  refine OOK.freeze 2 rfl rfl fun g2 hg2 hx => ?_
  refine OOK.freeze 3 rfl rfl fun g3 hg3 hn3 => ?_
  refine OOK.freeze 4 rfl rfl fun g4 hg4 hf4 => ?_
  refine OOK.call [0, 1] rfl rfl rfl (by kernel_rfl) rfl (f_change g4 db mb d 59 #[.pointer (some ⟨bf, 0, none⟩), .pointer (some ⟨bx, 0, none⟩), .pointer (some ⟨bn, 0, none⟩)] (fun d2 g' => d2.fs = (d.put nm ⟨f.A, f.c, f.l, f.l.length⟩).fs ∧ d2.clock = (d.put nm ⟨f.A, f.c, f.l, f.l.length⟩).clock) (by kernel_rfl) hz.lo hz.hi (fun g' d1 hg' e1 e2 => ?_)) (by decide) rfl ?_
  · refine (f_sync1 g' db mb bf bx bn d1 nm f ⟨_, hg' _ _ hf4⟩ ⟨_, hg' _ _ (hg4 _ _ (hg3 _ _ hx))⟩ ⟨_, hg' _ _ (hg4 _ _ hn3)⟩).mono ?_
    rintro v g2 m2 hg2 ⟨rfl, rfl⟩
    refine ⟨rfl, d1.put nm ⟨f.A, f.c, f.l, f.l.length⟩, rfl, rfl, rfl, ⟨?_, ?_⟩, rfl⟩
    · simp only [Dk.put, e1, e2]
    · simp only [Dk.put, e1, e2]
  rintro v_ g5 m_ hg5 (⟨k1, k2, rfl, rfl⟩ | ⟨k1, rfl, d2, k2, k3, k4, k5, rfl⟩)
  · conv => whnf
    exact .mk ⟨_, [0, 1], _, rfl, by decide, rfl, ⟨rfl, rfl, trivial⟩, .inl ⟨k1, k2, rfl, rfl⟩⟩
  · conv => whnf
    exact .mk ⟨_, [0, 1], _, rfl, by decide, rfl, ⟨rfl, rfl, trivial⟩, .inr ⟨k1, rfl, d2, k2, k3, k4, k5, rfl⟩⟩
theorem f_remove (g : GH) (db mb : Nat) (d : Dk) (nm : ByteArray) (f : Fl) (hf : getF nm d.fs = some f) (hz : Fz d) (hn : NameOk nm) (hd : d.stopped = false) :
    Tri Try.prog 43 [.pointer (some ⟨db, 0, none⟩), .string nm] g [dBox db mb d, mBox mb d]
      (Out db mb d fun d2 g' => d2.fs = delF nm d.fs ∧ d2.clock = d.clock) := by
  refine Tri.vc [.own 0 0, .val (.string nm)] Try.func43 rfl Try.ntmps43 rfl rfl ?_
  conv => whnf
  intro bx
  conv => whnf
  intro bn
  conv => whnf
  refine OOK.call [0, 1] rfl rfl rfl (by kernel_rfl) rfl (f_existing0 g db mb d nm f hf hn hd) (by decide) rfl ?_
  rintro v_ g1 m_ hg1 ⟨rfl, rfl⟩
  conv => whnf
  intro bf
  conv => whnf
  refine ⟨fun q => absurd q (by decide), fun _ => ?_⟩
  conv => whnf
  refine OOK.freeze 2 rfl rfl fun g2 hg2 hx => ?_
  refine OOK.freeze 3 rfl rfl fun g3 hg3 hn3 => ?_
  refine OOK.call [0, 1] rfl rfl rfl (by kernel_rfl) rfl (f_change g3 db mb d 62 #[.pointer (some ⟨bx, 0, none⟩), .pointer (some ⟨bn, 0, none⟩)] (fun d2 g' => d2.fs = delF nm d.fs ∧ d2.clock = d.clock) (by kernel_rfl) hz.lo hz.hi (fun g' d1 hg' e1 e2 => ?_)) (by decide) rfl ?_
  · refine (f_remove1 g' db mb bx bn d1 nm ⟨_, hg' _ _ (hg3 _ _ hx)⟩ ⟨_, hg' _ _ hn3⟩).mono ?_
    rintro v g2 m2 hg2 ⟨rfl, rfl⟩
    exact ⟨rfl, { d1 with fs := delF nm d1.fs }, rfl, rfl, rfl, ⟨by rw [e1], e2⟩, rfl⟩
  rintro v_ g5 m_ hg5 (⟨k1, k2, rfl, rfl⟩ | ⟨k1, rfl, d2, k2, k3, k4, k5, rfl⟩)
  · conv => whnf
    exact .mk ⟨_, [0, 1], _, rfl, by decide, rfl, ⟨rfl, rfl, trivial⟩, .inl ⟨k1, k2, rfl, rfl⟩⟩
  · conv => whnf
    exact .mk ⟨_, [0, 1], _, rfl, by decide, rfl, ⟨rfl, rfl, trivial⟩, .inr ⟨k1, rfl, d2, k2, k3, k4, k5, rfl⟩⟩
theorem f_rename (g : GH) (db mb : Nat) (d : Dk) (nm to : ByteArray) (f : Fl) (hf : getF nm d.fs = some f) (hz : Fz d) (hn : NameOk nm) (hn2 : NameOk to) (hd : d.stopped = false) :
    Tri Try.prog 52 [.pointer (some ⟨db, 0, none⟩), .string nm, .string to] g [dBox db mb d, mBox mb d]
      (Out db mb d fun d2 g' => d2.fs = (({ d with fs := delF nm d.fs } : Dk).put to f).fs ∧ d2.clock = (({ d with fs := delF nm d.fs } : Dk).put to f).clock) := by
  refine Tri.vc [.own 0 0, .val (.string nm), .val (.string to)] Try.func52 rfl Try.ntmps52 rfl rfl ?_
  conv => whnf
  intro bx
  conv => whnf
  intro bn
  conv => whnf
  intro bt
  conv => whnf
  intro ob
  conv => whnf
  refine OOK.call [0, 1, 5] rfl rfl rfl (by kernel_rfl) rfl (f_existing1 g db mb ob d nm to f hf hn hn2 hd) (by decide) rfl ?_
  rintro v_ g1 m_ hg1 ⟨rfl, rfl⟩
  conv => whnf
  intro bf
  conv => whnf
  refine ⟨fun q => absurd q (by decide), fun _ => ?_⟩
  conv => whnf
  refine OOK.freeze 2 rfl rfl fun g2 hg2 hx => ?_
  refine OOK.freeze 3 rfl rfl fun g3 hg3 hn3 => ?_
  refine OOK.freeze 4 rfl rfl fun g4 hg4 ht4 => ?_
  refine OOK.freeze 6 rfl rfl fun g5 hg5 hf5 => ?_
  refine OOK.call [0, 1] rfl rfl rfl (by kernel_rfl) rfl (f_change g5 db mb d 66 #[.pointer (some ⟨bx, 0, none⟩), .pointer (some ⟨bn, 0, none⟩), .pointer (some ⟨bf, 0, none⟩), .pointer (some ⟨bt, 0, none⟩)] (fun d2 g' => d2.fs = (({ d with fs := delF nm d.fs } : Dk).put to f).fs ∧ d2.clock = (({ d with fs := delF nm d.fs } : Dk).put to f).clock) (by kernel_rfl) hz.lo hz.hi (fun g' d1 hg' e1 e2 => ?_)) (by decide) rfl ?_
  · refine (f_rename1 g' db mb bx bn bf bt d1 nm to f ⟨_, hg' _ _ (hg5 _ _ (hg4 _ _ (hg3 _ _ hx)))⟩ ⟨_, hg' _ _ (hg5 _ _ (hg4 _ _ hn3))⟩ ⟨_, hg' _ _ hf5⟩ ⟨_, hg' _ _ (hg5 _ _ ht4)⟩).mono ?_
    rintro v g2 m2 hg2 ⟨rfl, rfl⟩
    refine ⟨rfl, ({ d1 with fs := delF nm d1.fs } : Dk).put to f, rfl, rfl, rfl, ⟨?_, ?_⟩, rfl⟩
    · simp only [Dk.put, e1, e2]
    · simp only [Dk.put, e1, e2]
  rintro v_ g6 m_ hg6 (⟨k1, k2, rfl, rfl⟩ | ⟨k1, rfl, d2, k2, k3, k4, k5, rfl⟩)
  · conv => whnf
    exact .mk ⟨_, [0, 1], _, rfl, by decide, rfl, ⟨rfl, rfl, trivial⟩, .inl ⟨k1, k2, rfl, rfl⟩⟩
  · conv => whnf
    exact .mk ⟨_, [0, 1], _, rfl, by decide, rfl, ⟨rfl, rfl, trivial⟩, .inr ⟨k1, rfl, d2, k2, k3, k4, k5, rfl⟩⟩
theorem f_readF (g : GH) (db mb : Nat) (d : Dk) (nm : ByteArray) (f : Fl) (hf : getF nm d.fs = some f) (h : Fok g d) (hn : NameOk nm) (hd : d.stopped = false) :
    Tri Try.prog 40 [.pointer (some ⟨db, 0, none⟩), .string nm] g [dBox db mb d, mBox mb d] fun v g' m' => m' = [dBox db mb d, mBox mb d] ∧ ∃ A' c', v = .tuple #[.slice A' f.l.length c', .int .i64 0] ∧ f.l.length ≤ c' ∧ Row g' encB A' f.l := by
  obtain ⟨e, he, rfl⟩ := get_mem nm hf
  refine Tri.vc [.own 0 0, .val (.string nm)] Try.func40 rfl Try.ntmps40 rfl rfl ?_
  conv => whnf
  refine OOK.call [0, 1] rfl rfl rfl (by kernel_rfl) rfl (f_existing0 g db mb d nm e.f hf hn hd) (by decide) rfl ?_
  rintro v_ g1 m_ hg1 ⟨rfl, rfl⟩
  conv => whnf
  intro bf
  conv => whnf
  refine ⟨fun q => absurd q (by decide), fun _ => ?_⟩
  conv => whnf
  refine OOK.call [] rfl rfl rfl (by kernel_rfl) rfl (f_cloneR g1 e.f.A e.f.c e.f.l ((h.rows e he).mono hg1) (by have := h.len e he; omega)) (by decide) rfl ?_
  rintro v_ g2 m_ hg2 ⟨rfl, A', c', rfl, hc', hr'⟩
  conv => whnf
  exact .mk ⟨_, [0, 1], _, rfl, by decide, rfl, ⟨rfl, rfl, trivial⟩, rfl, A', c', rfl, hc', hr'⟩
end Go.Proofs.Ytkkefknmahnjnaa
