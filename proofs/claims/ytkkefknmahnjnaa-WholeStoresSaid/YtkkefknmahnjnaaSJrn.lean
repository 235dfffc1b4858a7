/- WholeStores: a journal's changes. -/
import Derived.Test.YtkkefknmahnjnaaSStep
import Derived.Test.YtkkefknmahnjnaaSRecs
set_option linter.unusedVariables false
set_option linter.unusedSimpArgs false
set_option maxRecDepth 100000
namespace Go.Proofs.Ytkkefknmahnjnaa
open Go Go.SX

def postApp (nm : ByteArray) (b : List UInt8) (d : Dk) (d2 : Dk) (g' : GH) : Prop := ∃ A' c', Row g' encB A' ((oldF nm d).l ++ b) ∧ ((oldF nm d).l ++ b).length ≤ c' ∧ d2.fs = (d.put nm ⟨A', c', (oldF nm d).l ++ b, (oldF nm d).safe⟩).fs ∧ d2.clock = (d.put nm ⟨A', c', (oldF nm d).l ++ b, (oldF nm d).safe⟩).clock
def postSync (nm : ByteArray) (f : Fl) (d : Dk) (d2 : Dk) : Prop := d2.fs = (d.put nm ⟨f.A, f.c, f.l, f.l.length⟩).fs ∧ d2.clock = (d.put nm ⟨f.A, f.c, f.l, f.l.length⟩).clock
theorem frame_len (l : List UInt8) : (frameL l).length = 8 + l.length := by unfold frameL headL; simp; omega
theorem f_a1 (g : GH) (jb db mb bj bb : Nat) (A : Option Addr) (n c : Nat) (st : Bool) (d : Dk) (hj : Bx g bj (.pointer (some ⟨jb, 0, none⟩))) (B : Option Addr) (cb : Nat) (b : List UInt8) (hb : Bx g bb (.slice B b.length cb)) (hB : Row g encB B b) (hbl : b.length ≤ 10000) (h : Fok g d) (hz : Fz d) (hd : d.stopped = false) :
    Tri Try.prog 30 [.pointer (some ⟨bj, 0, none⟩), .pointer (some ⟨bb, 0, none⟩)] g (M3 (jBox jb db A n c st) db mb d) (Out3 (jBox jb db A n c st) db mb d (postApp kLog (frameL b) d)) := by
  refine Tri.vc [.val (.pointer (some ⟨bj, 0, none⟩)), .val (.pointer (some ⟨bb, 0, none⟩))] Try.func30 rfl Try.ntmps30 rfl rfl ?_
  conv => whnf
  refine COK.draw [0] (by kernel_rfl) (by kernel_rfl) ?_
  conv => whnf
  refine YN.load rfl rfl rfl hj.cell ?_
  conv => whnf
  refine YN.loadOwn (v := .pointer (some ⟨db, 0, none⟩)) 0 rfl rfl rfl rfl rfl ?_
  conv => whnf
  refine YN.load rfl rfl rfl hj.cell ?_
  conv => whnf
  refine YN.loadOwn (v := .string kLog) 0 rfl rfl rfl rfl rfl ?_
  conv => whnf
  refine YN.load rfl rfl rfl hb.cell ?_
  conv => whnf
  refine OOK.call [] rfl rfl rfl (by kernel_rfl) rfl (f_frame g B cb b hB (by omega)) (by decide) rfl ?_
  rintro v_ g1 m_ hg1 ⟨rfl, A', c', rfl, hr'⟩
  conv => whnf
  refine ⟨⟨rfl, rfl, rfl, trivial⟩, ?_⟩
  conv => whnf
  refine OOK.call [1, 2] rfl rfl rfl (by kernel_rfl) rfl (f_append g1 db mb d kLog A' c' (frameL b) (h.mono hg1) hz hr' (by rw [frame_len]; omega) ok_log hd) (by decide) rfl ?_
  rintro v_ g9 m_ hg9 (⟨k1, k2, rfl, rfl⟩ | ⟨k1, rfl, d2, k2, k3, k4, k5, rfl⟩)
  · conv => whnf
    refine ⟨⟨rfl, rfl, rfl, trivial⟩, ?_⟩
    conv => whnf
    exact .mk ⟨_, [0, 1, 2], _, rfl, by decide, rfl, ⟨rfl, rfl, rfl, trivial⟩, .inl ⟨k1, k2, rfl, rfl⟩⟩
  · conv => whnf
    refine ⟨⟨rfl, rfl, rfl, trivial⟩, ?_⟩
    conv => whnf
    exact .mk ⟨_, [0, 1, 2], _, rfl, by decide, rfl, ⟨rfl, rfl, rfl, trivial⟩, .inr ⟨k1, rfl, d2, k2, k3, k4, k5, rfl⟩⟩
theorem f_a2 (g : GH) (jb db mb bj : Nat) (A : Option Addr) (n c : Nat) (st : Bool) (d : Dk) (hj : Bx g bj (.pointer (some ⟨jb, 0, none⟩))) (f : Fl) (hf : getF kLog d.fs = some f) (hz : Fz d) (hd : d.stopped = false) :
    Tri Try.prog 32 [.pointer (some ⟨bj, 0, none⟩)] g (M3 (jBox jb db A n c st) db mb d) (Out3 (jBox jb db A n c st) db mb d (fun d2 _ => postSync kLog f d d2)) := by
  refine Tri.vc [.val (.pointer (some ⟨bj, 0, none⟩))] Try.func32 rfl Try.ntmps32 rfl rfl ?_
  conv => whnf
  refine COK.draw [0] (by kernel_rfl) (by kernel_rfl) ?_
  conv => whnf
  refine YN.load rfl rfl rfl hj.cell ?_
  conv => whnf
  refine YN.loadOwn (v := .pointer (some ⟨db, 0, none⟩)) 0 rfl rfl rfl rfl rfl ?_
  conv => whnf
  refine YN.load rfl rfl rfl hj.cell ?_
  conv => whnf
  refine YN.loadOwn (v := .string kLog) 0 rfl rfl rfl rfl rfl ?_
  conv => whnf
  refine OOK.call [1, 2] rfl rfl rfl (by kernel_rfl) rfl (f_sync g db mb d kLog f hf hz ok_log hd) (by decide) rfl ?_
  rintro v_ g9 m_ hg9 (⟨k1, k2, rfl, rfl⟩ | ⟨k1, rfl, d2, k2, k3, k4, k5, rfl⟩)
  · conv => whnf
    refine ⟨⟨rfl, rfl, rfl, trivial⟩, ?_⟩
    conv => whnf
    exact .mk ⟨_, [0, 1, 2], _, rfl, by decide, rfl, ⟨rfl, rfl, rfl, trivial⟩, .inl ⟨k1, k2, rfl, rfl⟩⟩
  · conv => whnf
    refine ⟨⟨rfl, rfl, rfl, trivial⟩, ?_⟩
    conv => whnf
    exact .mk ⟨_, [0, 1, 2], _, rfl, by decide, rfl, ⟨rfl, rfl, rfl, trivial⟩, .inr ⟨k1, rfl, d2, k2, k3, k4, k5, rfl⟩⟩
/-- The three changes by which bytes become the journal's file. -/
def repl (bx bo bn bb : Nat) : List Clo := [(49, #[.pointer (some ⟨bx, 0, none⟩), .pointer (some ⟨bo, 0, none⟩), .pointer (some ⟨bb, 0, none⟩)]), (50, #[.pointer (some ⟨bx, 0, none⟩), .pointer (some ⟨bo, 0, none⟩)]), (51, #[.pointer (some ⟨bx, 0, none⟩), .pointer (some ⟨bo, 0, none⟩), .pointer (some ⟨bn, 0, none⟩)])]
theorem f_repl (g : GH) (db : Nat) (B : Option Addr) (n c : Nat) :
    Tri Try.prog 28 [.pointer (some ⟨db, 0, none⟩), .string kLog, .slice B n c] g [] fun v g' m' => m' = [] ∧ ∃ cb bx bo bn bb, v = .slice (some ⟨cb, 0, none⟩) 3 3 ∧ Row g' encC (some ⟨cb, 0, none⟩) (repl bx bo bn bb) ∧ Bx g' bx (.pointer (some ⟨db, 0, none⟩)) ∧ Bx g' bo (.string kNew) ∧ Bx g' bn (.string kLog) ∧ Bx g' bb (.slice B n c) := by
  refine Tri.vc [.val (.pointer (some ⟨db, 0, none⟩)), .val (.string kLog), .val (.slice B n c)] Try.func28 rfl Try.ntmps28 rfl rfl ?_
  conv => whnf
  intro bx
  conv => whnf
  intro bn
  conv => whnf
  intro bb
  conv => whnf
  refine ⟨by decide, ?_⟩
  rw [newName]
  conv => whnf
  intro bo
  conv => whnf
  intro cb
  conv => whnf
  refine .freeze 0 rfl rfl fun g1 hg1 h1 => ?_
  refine .freeze 1 rfl rfl fun g2 hg2 h2 => ?_
  refine .freeze 2 rfl rfl fun g3 hg3 h3 => ?_
  refine .freeze 3 rfl rfl fun g4 hg4 h4 => ?_
  refine .freeze 4 rfl rfl fun g5 hg5 h5 => ?_
  exact .mk ⟨_, [], _, rfl, by decide, rfl, trivial, rfl, cb, bx, bo, bn, bb, rfl, row_of (l := repl bx bo bn bb) (rest := []) (el := 60) h5, ⟨_, hg5 _ _ (hg4 _ _ (hg3 _ _ (hg2 _ _ h1)))⟩, ⟨_, hg5 _ _ h4⟩, ⟨_, hg5 _ _ (hg4 _ _ (hg3 _ _ h2))⟩, ⟨_, hg5 _ _ (hg4 _ _ h3)⟩⟩
end Go.Proofs.Ytkkefknmahnjnaa
