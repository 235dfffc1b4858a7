/- WholeStores: the operations of a disk. -/
import Derived.Test.YtkkefknmahnjnaaSApp
set_option linter.unusedVariables false
set_option linter.unusedSimpArgs false
set_option maxRecDepth 100000
namespace Go.Proofs.Ytkkefknmahnjnaa
open Go Go.SX

def BxF (g : GH) (b : Nat) (f : Fl) : Prop := ∃ t, g b = some (.cells f.cells.toArray t (0, 0))
theorem BxF.mono {g g' : GH} {b : Nat} {f : Fl} (h : BxF g b f) (k : g.le g') : BxF g' b f := ⟨h.choose, k _ _ h.choose_spec⟩
theorem BxF.cell {g : GH} {b : Nat} {f : Fl} (h : BxF g b f) : cellG g ⟨b, 0, none⟩ = some (.slice f.A f.l.length f.c) := by
  obtain ⟨t, h⟩ := h
  simp [cellG, h, Fl.cells]
theorem BxF.reads {g : GH} {b : Nat} {f : Fl} (h : BxF g b f) : Reads g ⟨b, 0, none⟩ f.cells := by
  obtain ⟨t, h⟩ := h
  intro j v hj
  simp only [cellG, addN, h, Nat.zero_add]
  simpa using hj
theorem f_sync1 (g : GH) (db mb bf bx bn : Nat) (d : Dk) (nm : ByteArray) (f : Fl) (hf : BxF g bf f) (hx : Bx g bx (.pointer (some ⟨db, 0, none⟩))) (hn : Bx g bn (.string nm)) :
    Tri Try.prog 59 [.pointer (some ⟨bf, 0, none⟩), .pointer (some ⟨bx, 0, none⟩), .pointer (some ⟨bn, 0, none⟩)] g [dBox db mb d, mBox mb d] fun v g' m' => v = .tuple #[] ∧ m' = [dBox db mb (d.put nm ⟨f.A, f.c, f.l, f.l.length⟩), mBox mb (d.put nm ⟨f.A, f.c, f.l, f.l.length⟩)] := by
  refine Tri.vc [.val (.pointer (some ⟨bf, 0, none⟩)), .val (.pointer (some ⟨bx, 0, none⟩)), .val (.pointer (some ⟨bn, 0, none⟩))] Try.func59 rfl Try.ntmps59 rfl rfl ?_
  conv => whnf
  refine COK.draw [0] (by kernel_rfl) (by kernel_rfl) ?_
  conv => whnf
  refine YN.load rfl rfl rfl hx.cell ?_
  conv => whnf
  refine YN.loadOwn (v := .map (some mb)) 0 rfl rfl rfl rfl rfl ?_
  conv => whnf
  refine YN.load rfl rfl rfl hn.cell ?_
  conv => whnf
  refine YN.load rfl rfl rfl hf.cell ?_
  conv => whnf
  refine YN.load rfl rfl rfl hf.cell ?_
  conv => whnf
  refine OOK.mapUpdate (v := (⟨f.A, f.c, f.l, f.l.length⟩ : Fl).val) 1 rfl rfl rfl rfl rfl rfl rfl (strKeys d.fs) (put_ent nm _ d.clock d.fs) (congrArg (fun b => if b = true then d.clock else d.clock + 1) (find_some nm d.fs 0)) ?_
  conv => whnf
  refine ⟨⟨rfl, rfl, trivial⟩, ?_⟩
  conv => whnf
  exact .mk ⟨_, [0, 1], _, rfl, by decide, rfl, ⟨rfl, rfl, trivial⟩, rfl, rfl⟩
theorem f_remove1 (g : GH) (db mb bx bn : Nat) (d : Dk) (nm : ByteArray) (hx : Bx g bx (.pointer (some ⟨db, 0, none⟩))) (hn : Bx g bn (.string nm)) :
    Tri Try.prog 62 [.pointer (some ⟨bx, 0, none⟩), .pointer (some ⟨bn, 0, none⟩)] g [dBox db mb d, mBox mb d] fun v g' m' => v = .tuple #[] ∧ m' = [dBox db mb { d with fs := delF nm d.fs }, mBox mb { d with fs := delF nm d.fs }] := by
  refine Tri.vc [.val (.pointer (some ⟨bx, 0, none⟩)), .val (.pointer (some ⟨bn, 0, none⟩))] Try.func62 rfl Try.ntmps62 rfl rfl ?_
  conv => whnf
  refine COK.draw [0] (by kernel_rfl) (by kernel_rfl) ?_
  conv => whnf
  refine YN.load rfl rfl rfl hx.cell ?_
  conv => whnf
  refine YN.loadOwn (v := .map (some mb)) 0 rfl rfl rfl rfl rfl ?_
  conv => whnf
  refine YN.load rfl rfl rfl hn.cell ?_
  conv => whnf
  refine OOK.mapDelete 1 rfl rfl rfl rfl rfl rfl (strKeys d.fs) (del_ent nm d.fs) ?_
  conv => whnf
  refine ⟨⟨rfl, rfl, trivial⟩, ?_⟩
  conv => whnf
  exact .mk ⟨_, [0, 1], _, rfl, by decide, rfl, ⟨rfl, rfl, trivial⟩, rfl, rfl⟩
theorem f_rename1 (g : GH) (db mb bx bn bf bt : Nat) (d : Dk) (nm to : ByteArray) (f : Fl) (hx : Bx g bx (.pointer (some ⟨db, 0, none⟩))) (hn : Bx g bn (.string nm)) (hf : BxF g bf f) (ht : Bx g bt (.string to)) :
    Tri Try.prog 66 [.pointer (some ⟨bx, 0, none⟩), .pointer (some ⟨bn, 0, none⟩), .pointer (some ⟨bf, 0, none⟩), .pointer (some ⟨bt, 0, none⟩)] g [dBox db mb d, mBox mb d] fun v g' m' => v = .tuple #[] ∧ m' = [dBox db mb (({ d with fs := delF nm d.fs } : Dk).put to f), mBox mb (({ d with fs := delF nm d.fs } : Dk).put to f)] := by
  refine Tri.vc [.val (.pointer (some ⟨bx, 0, none⟩)), .val (.pointer (some ⟨bn, 0, none⟩)), .val (.pointer (some ⟨bf, 0, none⟩)), .val (.pointer (some ⟨bt, 0, none⟩))] Try.func66 rfl Try.ntmps66 rfl rfl ?_
  conv => whnf
  refine COK.draw [0] (by kernel_rfl) (by kernel_rfl) ?_
  conv => whnf
  refine YN.load rfl rfl rfl hx.cell ?_
  conv => whnf
  refine YN.loadOwn (v := .map (some mb)) 0 rfl rfl rfl rfl rfl ?_
  conv => whnf
  refine YN.load rfl rfl rfl hn.cell ?_
  conv => whnf
  refine OOK.mapDelete 1 rfl rfl rfl rfl rfl rfl (strKeys d.fs) (del_ent nm d.fs) ?_
  conv => whnf
  refine ⟨⟨rfl, rfl, trivial⟩, ?_⟩
  conv => whnf
  refine COK.draw [0] (by kernel_rfl) (by kernel_rfl) ?_
  conv => whnf
  refine YN.load rfl rfl rfl hx.cell ?_
  conv => whnf
  refine YN.loadOwn (v := .map (some mb)) 0 rfl rfl rfl rfl rfl ?_
  conv => whnf
  refine YN.load rfl rfl rfl ht.cell ?_
  conv => whnf
  refine YN.loads (cs := f.cells) rfl rfl rfl hf.reads ?_
  conv => whnf
  refine OOK.mapUpdate (v := f.val) 1 rfl rfl rfl rfl rfl rfl rfl (strKeys (delF nm d.fs)) (put_ent to _ d.clock (delF nm d.fs)) (congrArg (fun b => if b = true then d.clock else d.clock + 1) (find_some to (delF nm d.fs) 0)) ?_
  conv => whnf
  refine ⟨⟨rfl, rfl, trivial⟩, ?_⟩
  conv => whnf
  exact .mk ⟨_, [0, 1], _, rfl, by decide, rfl, ⟨rfl, rfl, trivial⟩, rfl, rfl⟩
end Go.Proofs.Ytkkefknmahnjnaa
