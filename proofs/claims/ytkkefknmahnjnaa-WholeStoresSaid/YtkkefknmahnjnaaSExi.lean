/- WholeStores: an existing file; a change of a disk. -/
import Derived.Test.YtkkefknmahnjnaaSChg
import Derived.Test.YtkkefknmahnjnaaSFrame
set_option linter.unusedVariables false
set_option linter.unusedSimpArgs false
set_option maxRecDepth 100000
namespace Go.Proofs.Ytkkefknmahnjnaa
open Go Go.SX

theorem zero_file (w : World) : (zeroValue 58).run Try.prog w = .ok Fl.none.val w := by
  have := Try.zeroValue58 w
  exact this
theorem f_existing0 (g : GH) (db mb : Nat) (d : Dk) (nm : ByteArray) (f : Fl) (hf : getF nm d.fs = some f) (hn : NameOk nm) (hd : d.stopped = false) :
    Tri Try.prog 58 [.pointer (some ⟨db, 0, none⟩), .string nm, .slice none 0 0] g [dBox db mb d, mBox mb d] fun v g' m' => v = .tuple #[f.val, .int .i64 0] ∧ m' = [dBox db mb d, mBox mb d] := by
  refine Tri.vc [.own 0 0, .val (.string nm), .val (.slice none 0 0)] Try.func58 rfl Try.ntmps58 rfl rfl ?_
  conv => whnf
  intro rb
  conv => whnf
  intro nb
  conv => whnf
  refine OOK.append0 (A := some ⟨nb, 0, none⟩) (sn := 1) (sc := 1) rfl rfl rfl rfl (.inl ⟨_, rfl⟩) rfl Src.nil' (by decide) ?_
  conv => whnf
  refine OOK.call [0, 3] rfl rfl rfl (by kernel_rfl) rfl (f_named g db mb d ⟨nb, .cells [.string nm] 9 (0, 0)⟩ (some ⟨nb, 0, none⟩) 1 [nm] (fun _ => .inr ⟨1, nb, _, _, _, rfl, rfl, fun j v hj => hj⟩) (by simp) (by simpa using hn) hd) (by decide) rfl ?_
  rintro v_ g1 m_ hg1 ⟨rfl, rfl⟩
  conv => whnf
  refine ⟨fun q => absurd q (by decide), fun _ => ?_⟩
  conv => whnf
  obtain ⟨r, hr⟩ : ∃ r, findE nm (d.fs.map FE.ent) 0 = r := ⟨_, rfl⟩
  have hget := find_get nm d.fs 0
  rw [hr, hf] at hget
  obtain ⟨q, rfl, hq⟩ : ∃ q, r = some q ∧ q.2 = f.val := by
    cases r with
    | none => cases hget
    | some q => exact ⟨q, rfl, Option.some.inj hget⟩
  obtain ⟨q1, q2⟩ := q
  simp only at hq
  subst hq
  refine OOK.lookup 1 _ rfl rfl rfl rfl rfl rfl (strKeys d.fs) zero_file hr ?_
  conv => whnf
  intro fb
  conv => whnf
  refine ⟨(by intro q; cases q), fun _ => ?_⟩
  conv => whnf
  exact .mk ⟨_, [0, 1], _, rfl, by decide, rfl, ⟨rfl, rfl, trivial⟩, rfl, rfl⟩
theorem f_existing1 (g : GH) (db mb ob : Nat) (d : Dk) (nm to : ByteArray) (f : Fl) (hf : getF nm d.fs = some f) (hn : NameOk nm) (hn2 : NameOk to) (hd : d.stopped = false) :
    Tri Try.prog 58 [.pointer (some ⟨db, 0, none⟩), .string nm, .slice (some ⟨ob, 0, none⟩) 1 1] g [dBox db mb d, mBox mb d, ⟨ob, .cells [.string to] 9 (0, 0)⟩] fun v g' m' => v = .tuple #[f.val, .int .i64 0] ∧ m' = [dBox db mb d, mBox mb d, ⟨ob, .cells [.string to] 9 (0, 0)⟩] := by
  refine Tri.vc [.own 0 0, .val (.string nm), .val (.slice (some ⟨ob, 0, none⟩) 1 1)] Try.func58 rfl Try.ntmps58 rfl rfl ?_
  conv => whnf
  intro rb
  conv => whnf
  intro nb
  conv => whnf
  refine OOK.appendNew (A := some ⟨nb, 0, none⟩) (sn := 1) (sc := 1) (old := [.string nm]) (ys := [.string to]) (k := 1) rfl rfl rfl rfl (.inl ⟨_, rfl⟩) rfl (size := 1) (bytes := 16) rfl rfl rfl (by decide) rfl
    (Src.own (i := 4) (q := 0) rfl rfl (fun j v hj => by rw [Nat.zero_add]; exact hj)) rfl rfl (by decide) (Src.own (i := 2) (q := 0) rfl rfl (fun j v hj => by rw [Nat.zero_add]; exact hj)) (by decide) ?_
  intro b' c' rest hle hlc
  conv => whnf
  refine OOK.call [0, 5] rfl rfl rfl (by kernel_rfl) rfl (f_named g db mb d ⟨b', .cells ([.string nm] ++ [.string to] ++ rest) 9 (0, 0)⟩ (some ⟨b', 0, none⟩) c' [nm, to] (fun _ => .inr ⟨1, b', _, _, _, rfl, rfl, fun j v hj => by
    rw [List.getElem?_append_left (by have := (List.getElem?_eq_some_iff.1 hj).1; simpa [encS] using this)]; exact hj⟩) (by simp) (by
      intro x hx
      rcases List.mem_cons.1 hx with rfl | hx
      · exact hn
      · obtain rfl := List.mem_singleton.1 hx; exact hn2) hd) (by decide) rfl ?_
  rintro v_ g1 m_ hg1 ⟨rfl, rfl⟩
  conv => whnf
  refine ⟨fun q => absurd q (by decide), fun _ => ?_⟩
  conv => whnf
  obtain ⟨r, hr⟩ : ∃ r, findE nm (d.fs.map FE.ent) 0 = r := ⟨_, rfl⟩
  have hget := find_get nm d.fs 0
  rw [hr, hf] at hget
  obtain ⟨q, rfl, hq⟩ : ∃ q, r = some q ∧ q.2 = f.val := by
    cases r with
    | none => cases hget
    | some q => exact ⟨q, rfl, Option.some.inj hget⟩
  obtain ⟨q1, q2⟩ := q
  simp only at hq
  subst hq
  refine OOK.lookup 1 _ rfl rfl rfl rfl rfl rfl (strKeys d.fs) zero_file hr ?_
  conv => whnf
  intro fb
  conv => whnf
  refine ⟨(by intro q; cases q), fun _ => ?_⟩
  conv => whnf
  exact .mk ⟨_, [0, 1, 2], _, rfl, by decide, rfl, ⟨rfl, rfl, rfl, trivial⟩, rfl, rfl⟩
/-- A change of a disk, by what it performs. -/
theorem f_change (g : GH) (db mb : Nat) (d : Dk) (pf : FuncId) (cap : Array Value) (Post : Dk → GH → Prop) (hok : calleeOk Try.prog pf = true) (hfz : 0 ≤ d.fuse) (hf2 : d.fuse ≤ 1000)
    (hp : ∀ g' d1, g.le g' → d1.fs = d.fs → d1.clock = d.clock → Tri Try.prog pf cap.toList g' [dBox db mb d1, mBox mb d1] fun v g2 m2 => v = .tuple #[] ∧ ∃ d2, d2.stopped = d1.stopped ∧ d2.fused = d1.fused ∧ d2.fuse = d1.fuse ∧ Post d2 g2 ∧ m2 = [dBox db mb d2, mBox mb d2]) :
    Tri Try.prog 56 [.pointer (some ⟨db, 0, none⟩), .func (.func pf) #[] cap] g [dBox db mb d, mBox mb d] fun v g' m' =>
      (d.fused = true ∧ d.fuse = 0 ∧ v = .int .i64 28 ∧ m' = [dBox db mb { d with stopped := true }, mBox mb d]) ∨
      ((d.fused = true → d.fuse ≠ 0) ∧ v = .int .i64 0 ∧ ∃ d2 : Dk, d2.stopped = d.stopped ∧ d2.fused = d.fused ∧ d2.fuse = (if d.fused then d.fuse - 1 else d.fuse) ∧ Post d2 g' ∧ m' = [dBox db mb d2, mBox mb d2]) := by
  refine Tri.vc [.own 0 0, .val (.func (.func pf) #[] cap)] Try.func56 rfl Try.ntmps56 rfl rfl ?_
  conv => whnf
  refine ⟨fun q => ?_, fun q => ?_⟩
  · conv => whnf
    refine ⟨fun q2 => ?_, fun q2 => ?_⟩
    · conv => whnf
      exact .mk ⟨_, [0, 1], _, rfl, by decide, rfl, ⟨rfl, rfl, trivial⟩, .inl ⟨q, eq_of_beq q2, rfl, rfl⟩⟩
    · have hne : d.fuse ≠ 0 := by simpa using q2
      conv => whnf
      rw [i64_in (x := d.fuse - 1) (by omega) (by omega)]
      refine OOK.call [0, 1] rfl rfl rfl hok rfl (hp g { d with fuse := d.fuse - 1 } (.refl _) rfl rfl) (by decide) rfl ?_
      rintro v_ g1 m_ hg1 ⟨rfl, d2, e1, e2, e3, hP, rfl⟩
      conv => whnf
      exact .mk ⟨_, [0, 1], _, rfl, by decide, rfl, ⟨rfl, rfl, trivial⟩, .inr ⟨fun _ => hne, rfl, d2, e1, e2, by rw [e3, if_pos q], hP, rfl⟩⟩
  · conv => whnf
    refine OOK.call [0, 1] rfl rfl rfl hok rfl (hp g d (.refl _) rfl rfl) (by decide) rfl ?_
    rintro v_ g1 m_ hg1 ⟨rfl, d2, e1, e2, e3, hP, rfl⟩
    conv => whnf
    exact .mk ⟨_, [0, 1], _, rfl, by decide, rfl, ⟨rfl, rfl, trivial⟩, .inr ⟨fun h => absurd (h.symm.trans q) (by decide), rfl, d2, e1, e2, by rw [e3, if_neg (by rw [show d.fused = false from q]; decide)], hP, rfl⟩⟩
end Go.Proofs.Ytkkefknmahnjnaa
