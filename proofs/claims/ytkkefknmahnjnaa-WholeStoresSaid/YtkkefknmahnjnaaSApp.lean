/- WholeStores: what the changes of a disk perform. -/
import Derived.Test.YtkkefknmahnjnaaSExi
set_option linter.unusedVariables false
set_option linter.unusedSimpArgs false
set_option maxRecDepth 100000
namespace Go.Proofs.Ytkkefknmahnjnaa
open Go Go.SX

/-- A variable that nobody will write again. -/
def Bx (g : GH) (b : Nat) (v : Value) : Prop := ∃ t, g b = some (.cells #[v] t (0, 0))
theorem Bx.mono {g g' : GH} {b : Nat} {v : Value} (h : Bx g b v) (k : g.le g') : Bx g' b v := ⟨h.choose, k _ _ h.choose_spec⟩
theorem Bx.cell {g : GH} {b : Nat} {v : Value} (h : Bx g b v) : cellG g ⟨b, 0, none⟩ = some v := by
  obtain ⟨t, h⟩ := h
  simp [cellG, h]
theorem src_row {P : Program} {g : GH} {m : Mem} {A : Option Addr} {c : Nat} {l : List UInt8} (h : Row g encB A l) : Src P g m (.slice A l.length c) l.length 1 (l.flatMap encB) := by
  by_cases h0 : l = []
  · subst h0; exact Src.nil'
  · obtain ⟨a, rfl, hr⟩ := h h0
    exact Src.reads (flat_len encB_len l) hr
theorem allB (l : List UInt8) : ∀ v ∈ l.flatMap encB, v.oneCell' = true := fun v hv => by
  obtain ⟨b, _, hb⟩ := List.mem_flatMap.1 hv
  exact encB_one b v hb
def Dk.put (d : Dk) (nm : ByteArray) (f : Fl) : Dk := { d with fs := putF nm f d.clock d.fs, clock := if (getF nm d.fs).isSome then d.clock else d.clock + 1 }
def oldF (nm : ByteArray) (d : Dk) : Fl := (getF nm d.fs).getD Fl.none
theorem f_app1 (g : GH) (db mb bx bn bb : Nat) (d : Dk) (nm : ByteArray) (B : Option Addr) (c : Nat) (b : List UInt8) (hx : Bx g bx (.pointer (some ⟨db, 0, none⟩))) (hn : Bx g bn (.string nm)) (hbb : Bx g bb (.slice B b.length c)) (hB : Row g encB B b)
    (hrow : Row g encB (oldF nm d).A (oldF nm d).l) (hlen : (oldF nm d).l.length ≤ 20000) (hb : b.length ≤ 20000) :
    Tri Try.prog 57 [.pointer (some ⟨bx, 0, none⟩), .pointer (some ⟨bn, 0, none⟩), .pointer (some ⟨bb, 0, none⟩)] g [dBox db mb d, mBox mb d] fun v g' m' => v = .tuple #[] ∧ ∃ A' c', Row g' encB A' ((oldF nm d).l ++ b) ∧ ((oldF nm d).l ++ b).length ≤ c' ∧
      m' = [dBox db mb (d.put nm ⟨A', c', (oldF nm d).l ++ b, (oldF nm d).safe⟩), mBox mb (d.put nm ⟨A', c', (oldF nm d).l ++ b, (oldF nm d).safe⟩)] := by
  have hflb := flat_len encB_len b
  refine Tri.vc [.val (.pointer (some ⟨bx, 0, none⟩)), .val (.pointer (some ⟨bn, 0, none⟩)), .val (.pointer (some ⟨bb, 0, none⟩))] Try.func57 rfl Try.ntmps57 rfl rfl ?_
  obtain ⟨r, hr⟩ : ∃ r, findE nm (d.fs.map FE.ent) 0 = r := ⟨_, rfl⟩
  have hget := find_get nm d.fs 0
  rw [hr] at hget
  have hval : (r.map (·.2)).getD Fl.none.val = (oldF nm d).val := by
    rw [hget]; unfold oldF
    cases getF nm d.fs <;> rfl
  conv => whnf
  refine COK.cut (α := Nat) (fun x => [(0, .val (.pointer (some ⟨bx, 0, none⟩))), (1, .val (.pointer (some ⟨bn, 0, none⟩))), (2, .val (.pointer (some ⟨bb, 0, none⟩))), (3, .own 2 0)]) (fun x => [dBox db mb d, mBox mb d, ⟨x, .cells (oldF nm d).cells 58 (0, 0)⟩]) (fun _ _ => True) ?_ ?_
  · refine COK.draw [0] (by kernel_rfl) (by kernel_rfl) ?_
    conv => whnf
    refine YN.load rfl rfl rfl hx.cell ?_
    conv => whnf
    refine YN.loadOwn (v := .map (some mb)) 0 rfl rfl rfl rfl rfl ?_
    conv => whnf
    refine YN.load rfl rfl rfl hn.cell ?_
    conv => whnf
    refine ⟨?_, ?_⟩
    · conv => whnf
      refine OOK.lookup 1 r rfl rfl rfl rfl rfl rfl (strKeys d.fs) zero_file hr ?_
      conv => whnf
      refine ⟨⟨rfl, rfl, trivial⟩, ?_⟩
      conv => whnf
      intro fb
      conv => whnf
      refine ⟨⟨rfl, rfl, trivial⟩, ?_⟩
      conv => whnf
      rw [hval]
      conv => whnf
      refine ⟨⟨rfl, rfl, trivial⟩, ?_⟩
      conv => whnf
      exact ⟨fb, [0, 1, 2], Sub.of (by decide) rfl ⟨rfl, rfl, rfl, rfl, trivial⟩, trivial⟩
    · conv => whnf
      intro fb
      conv => whnf
      refine ⟨⟨rfl, rfl, trivial⟩, ?_⟩
      conv => whnf
      refine OOK.lookup 1 r rfl rfl rfl rfl rfl rfl (strKeys d.fs) zero_file hr ?_
      conv => whnf
      rw [hval]
      refine ⟨⟨rfl, rfl, trivial⟩, ?_⟩
      conv => whnf
      refine ⟨⟨rfl, rfl, trivial⟩, ?_⟩
      conv => whnf
      exact ⟨fb, [0, 1, 2], Sub.of (by decide) rfl ⟨rfl, rfl, rfl, rfl, trivial⟩, trivial⟩
  intro fb g1 hg1 _
  conv => whnf
  refine COK.draw [] (by kernel_rfl) (by kernel_rfl) ?_
  conv => whnf
  refine YN.load rfl rfl rfl ((hbb.mono hg1).cell) ?_
  conv => whnf
  refine ⟨⟨rfl, rfl, rfl, trivial⟩, ?_⟩
  conv => whnf
  refine OOK.call [] rfl rfl rfl (by kernel_rfl) rfl (f_clone g1 (oldF nm d).A (oldF nm d).c (oldF nm d).l (hrow.mono hg1) (by omega)) (by decide) rfl ?_
  rintro v_ g2 m_ hg2 ⟨A1, c1, rfl, hR⟩
  have hB2 := hB.mono (hg1.trans hg2)
  rcases hR with ⟨h1, rfl, _, rfl⟩ | ⟨b1, rest, rfl, rfl, h1, h2, h3⟩
  · have hl0 : (oldF nm d).l = [] := List.length_eq_zero_iff.1 h1
    conv => whnf
    refine ⟨⟨rfl, rfl, rfl, trivial⟩, ?_⟩
    conv => whnf
    by_cases hb0 : b = []
    · subst hb0
      refine OOK.append0 (A := A1) (sn := (oldF nm d).l.length) (sc := 0) rfl rfl rfl rfl (.inl ⟨_, rfl⟩) rfl Src.nil' (by omega) ?_
      conv => whnf
      refine ⟨⟨rfl, rfl, rfl, trivial⟩, ?_⟩
      conv => whnf
      refine ⟨⟨rfl, rfl, rfl, trivial⟩, ?_⟩
      conv => whnf
      refine COK.draw [0, 2] (by kernel_rfl) (by kernel_rfl) ?_
      conv => whnf
      refine YN.load rfl rfl rfl ((hx.mono (hg1.trans hg2)).cell) ?_
      conv => whnf
      refine YN.loadOwn (v := .map (some mb)) 0 rfl rfl rfl rfl rfl ?_
      conv => whnf
      refine YN.load rfl rfl rfl ((hn.mono (hg1.trans hg2)).cell) ?_
      conv => whnf
      refine OOK.mapUpdate (v := (⟨A1, 0, (oldF nm d).l ++ [], (oldF nm d).safe⟩ : Fl).val) 1 rfl rfl rfl (by show some (Value.agg #[Value.slice _ _ _, _]) = _; unfold Fl.val; rw [List.append_nil]) rfl rfl rfl (strKeys d.fs) (put_ent nm _ d.clock d.fs) (congrArg (fun b => if b = true then d.clock else d.clock + 1) (find_some nm d.fs 0)) ?_
      conv => whnf
      refine ⟨⟨rfl, rfl, rfl, trivial⟩, ?_⟩
      conv => whnf
      exact .mk ⟨_, [0, 1], _, rfl, by decide, rfl, ⟨rfl, rfl, trivial⟩, rfl, A1, 0, by rw [hl0]; exact fun h => absurd rfl h, by rw [hl0]; exact Nat.le_refl _, rfl⟩
    · have hpos : 0 < b.length := List.length_pos_iff.2 hb0
      refine OOK.appendNew (A := A1) (sn := (oldF nm d).l.length) (sc := 0) (old := []) (ys := b.flatMap encB) (k := b.length) rfl rfl rfl rfl (.inl ⟨_, rfl⟩) rfl (size := 1) (bytes := 1) rfl rfl rfl (by decide) rfl (by rw [h1]; exact Src.nil') (by rw [h1]; rfl) hflb (by omega) (src_row hB2) (by omega) ?_
      intro b' c' rest' hle hlc
      conv => whnf
      refine ⟨⟨rfl, rfl, rfl, trivial⟩, ?_⟩
      conv => whnf
      refine ⟨⟨rfl, rfl, rfl, trivial⟩, ?_⟩
      conv => whnf
      refine COK.freeze 3 rfl rfl fun g3 hg3 hb3 => ?_
      refine COK.draw [0, 2] (by kernel_rfl) (by kernel_rfl) ?_
      conv => whnf
      refine YN.load rfl rfl rfl ((hx.mono ((hg1.trans hg2).trans hg3)).cell) ?_
      conv => whnf
      refine YN.loadOwn (v := .map (some mb)) 0 rfl rfl rfl rfl rfl ?_
      conv => whnf
      refine YN.load rfl rfl rfl ((hn.mono ((hg1.trans hg2).trans hg3)).cell) ?_
      conv => whnf
      refine OOK.mapUpdate (v := (⟨(some ⟨b', 0, none⟩), c', (oldF nm d).l ++ b, (oldF nm d).safe⟩ : Fl).val) 1 rfl rfl rfl (by show some (Value.agg #[Value.slice _ _ _, _]) = _; unfold Fl.val; rw [List.length_append]) rfl rfl rfl (strKeys d.fs) (put_ent nm _ d.clock d.fs) (congrArg (fun b => if b = true then d.clock else d.clock + 1) (find_some nm d.fs 0)) ?_
      conv => whnf
      refine ⟨⟨rfl, rfl, rfl, rfl, trivial⟩, ?_⟩
      conv => whnf
      exact .mk ⟨_, [0, 1], _, rfl, by decide, rfl, ⟨rfl, rfl, trivial⟩, rfl, (some ⟨b', 0, none⟩), c', by rw [hl0, List.nil_append]; exact row_of (rest := rest') (el := 5) hb3, by rw [List.length_append]; exact hle, rfl⟩
  · conv => whnf
    refine ⟨⟨rfl, rfl, rfl, trivial⟩, ?_⟩
    conv => whnf
    refine OOK.appendOwn (b := b1) (sn := (oldF nm d).l.length) (sc := c1) (k := b.length) (old := (oldF nm d).l.flatMap encB) (ys := b.flatMap encB) 3 rfl rfl rfl rfl (.inl ⟨_, rfl⟩) rfl (size := 1) (bytes := 1) rfl rfl rfl (by decide) rfl rfl (by rw [← h1, List.take_left' rfl]) h1 h2 hflb (src_row hB2) (allB b) (by omega) ?_
    intro b' c' rest' hle hlc _
    conv => whnf
    refine ⟨⟨rfl, rfl, rfl, trivial⟩, ?_⟩
    conv => whnf
    refine ⟨⟨rfl, rfl, rfl, trivial⟩, ?_⟩
    conv => whnf
    refine COK.freeze 4 rfl rfl fun g3 hg3 hb3 => ?_
    refine COK.draw [0, 2] (by kernel_rfl) (by kernel_rfl) ?_
    conv => whnf
    refine YN.load rfl rfl rfl ((hx.mono ((hg1.trans hg2).trans hg3)).cell) ?_
    conv => whnf
    refine YN.loadOwn (v := .map (some mb)) 0 rfl rfl rfl rfl rfl ?_
    conv => whnf
    refine YN.load rfl rfl rfl ((hn.mono ((hg1.trans hg2).trans hg3)).cell) ?_
    conv => whnf
    refine OOK.mapUpdate (v := (⟨(some ⟨b', 0, none⟩), c', (oldF nm d).l ++ b, (oldF nm d).safe⟩ : Fl).val) 1 rfl rfl rfl (by show some (Value.agg #[Value.slice _ _ _, _]) = _; unfold Fl.val; rw [List.length_append]) rfl rfl rfl (strKeys d.fs) (put_ent nm _ d.clock d.fs) (congrArg (fun b => if b = true then d.clock else d.clock + 1) (find_some nm d.fs 0)) ?_
    conv => whnf
    refine ⟨⟨rfl, rfl, rfl, rfl, rfl, trivial⟩, ?_⟩
    conv => whnf
    exact .mk ⟨_, [0, 1], _, rfl, by decide, rfl, ⟨rfl, rfl, trivial⟩, rfl, (some ⟨b', 0, none⟩), c', by refine row_of (rest := rest') (el := 5) ?_; rw [List.flatMap_append]; exact hb3, by rw [List.length_append]; exact hle, rfl⟩
end Go.Proofs.Ytkkefknmahnjnaa
