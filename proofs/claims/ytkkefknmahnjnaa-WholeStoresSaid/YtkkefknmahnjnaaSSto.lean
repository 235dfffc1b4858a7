/- WholeStores: the list's open. -/
import Derived.Test.YtkkefknmahnjnaaSOpen
set_option linter.unusedVariables false
set_option linter.unusedSimpArgs false
set_option maxRecDepth 100000
namespace Go.Proofs.Ytkkefknmahnjnaa
open Go Go.SX

def lens (ls : List (List UInt8)) : Nat := (ls.map fun l => 8 + l.length).sum
theorem lens_frames : ∀ (ls : List (List UInt8)), (framesL ls).length = lens ls
  | [] => rfl
  | l :: r => by
    have := lens_frames r
    unfold framesL lens at *
    rw [List.flatMap_cons, List.length_append, frame_len, this]
    simp
theorem lens_take {ls : List (List UInt8)} {i : Nat} {l : List UInt8} (h : ls[i]? = some l) : lens (ls.take (i + 1)) = lens (ls.take i) + (8 + l.length) := by
  unfold lens
  rw [List.take_add_one, h]
  simp
theorem lens_le (ls : List (List UInt8)) (i : Nat) : lens (ls.take i) ≤ lens ls := by
  unfold lens
  conv => rhs; rw [← List.take_append_drop i ls]
  rw [List.map_append, List.sum_append]
  omega
set_option maxHeartbeats 4000000 in
theorem f_sopen (g : GH) (sb db mb : Nat) (fuse : Int) (dead : Bool) (hs : List Rec) (s : Slot) (A : Option Addr) (c : Nat) (B : Option Addr) (k e : Nat) (d : Dk) (ls : List (List UInt8)) (tail : List UInt8) (ha : Al d) (h : Found g d ls tail) (ht : Short tail)
    (hO : OwnAt 22 1 Rec.enc hs s A c) (hm : hs.map Rec.l = ls) (hr : ∀ r ∈ hs, Row g encB r.A r.l) (hls : hs.length ≤ 1000) (hl1 : ∀ l ∈ ls, l.length ≤ 60000) :
    Tri Try.prog 6 [.pointer (some ⟨sb, 0, none⟩), .pointer (some ⟨db, 0, none⟩)] g [sBox sb fuse dead A hs.length c B k e, s, dBox db mb d, mBox mb d] fun v g' m' =>
      ∃ (x : Rd) (jb : Nat) (d' : Dk), x.ok ls g' ∧ x.rs.length = ls.length ∧ AlF (framesL ls) (framesL ls).length d' g' ∧ v = .tuple #[.pointer (some ⟨jb, 0, none⟩), .bool true] ∧ m' = [sBox sb fuse dead A hs.length c B k e, s, dBox db mb d', mBox mb d', x.s, jBox jb db x.A x.rs.length x.c false] := by
  have hll : ls.length = hs.length := by rw [← hm, List.length_map]
  refine Tri.cok [.own 0 0, .own 2 0] Try.func6 rfl Try.ntmps6 rfl rfl ?_
  refine COK.seq (vcC_ok _ _ _ _ _ ?_)
  conv => whnf
  refine COK.seq (vcC_ok _ _ _ _ _ ?_)
  conv => whnf
  refine OOK.call [2, 3] rfl rfl rfl (by kernel_rfl) rfl (f_open g db mb d ls tail ha h ht (by omega) (fun l hl => by have := hl1 l hl; omega)) (by decide) rfl ?_
  rintro v_ g1 m_ hg1 ⟨x, jb, d', hxo, hxl, hd', rfl, rfl⟩
  conv => whnf
  obtain ⟨f1, n1, hfs, hf1, hf2, hfok⟩ := hd'.2
  have hlen : lens ls ≤ 20000 := by
    rw [← lens_frames, ← hf1]
    exact hfok.len ⟨kLog, f1, n1⟩ (by rw [hfs]; exact List.mem_cons_self)
  refine COK.seq (vcC_ok _ _ _ _ _ ?_)
  conv => whnf
  refine ⟨fun q => absurd q (by decide), fun _ => ?_⟩
  conv => whnf
  refine COK.seq (vcC_ok _ _ _ _ _ ?_)
  conv => whnf
  refine COK.seq (vcC_ok _ _ _ _ _ ?_)
  conv => whnf
  refine COK.loop (α := Nat) (fun i => [(0, .own 0 0), (1, .own 2 0), (6, .val (.pointer (some ⟨jb, 0, none⟩))), (8, .val (.int .i64 (lens (ls.take i)))), (22, .val (.slice A hs.length c)), (23, .val (.int .i64 hs.length)), (24, .val (.int .i64 i))]) (fun _ => [sBox sb fuse dead A hs.length c B k e, s, dBox db mb d', mBox mb d', x.s, jBox jb db x.A x.rs.length x.c false]) (fun i _ => i ≤ hs.length) (fun i => hs.length - i) 0 [0, 1, 2, 3, 4, 5] (Sub.of (by decide) rfl ⟨rfl, rfl, rfl, rfl, rfl, rfl, rfl, trivial⟩) (Nat.zero_le _) ?_
  intro i g2 hg2 hi
  refine vcC_ok _ _ _ _ _ ?_
  by_cases hlt : i < hs.length
  · obtain ⟨p, hp⟩ : ∃ p, hs[i]? = some p := ⟨_, List.getElem?_eq_getElem hlt⟩
    have hpl : ls[i]? = some p.l := by rw [← hm, List.getElem?_map, hp]; rfl
    have htk := lens_take hpl
    have hle1 := lens_le ls (i + 1)
    obtain ⟨a, rfl, hrd⟩ := (hO.in_ (g := g2) (m := [sBox sb fuse dead A hs.length c B k e, s, dBox db mb d', mBox mb d', x.s, jBox jb db x.A x.rs.length x.c false]) 1 rfl).at_ Rec.len hp
    conv => whnf
    refine ⟨fun _ => ?_, fun h1 => absurd (of_decide_eq_false h1) (by show ¬ ¬ ((i : Int) < (hs.length : Int)); omega)⟩
    conv => whnf
    refine ⟨⟨by omega, by show (i : Int) < _; omega⟩, ?_⟩
    conv => whnf
    refine OOK.yn (YN.loadsIn1 rfl rfl rfl hrd ?_)
    conv => whnf
    refine ⟨i + 1, [0, 1, 2, 3, 4, 5], Sub.of (by decide) rfl ⟨rfl, rfl, rfl, int_eq ?_, rfl, rfl, int_eq (i64_in (by show (-9223372036854775808 : Int) ≤ (i : Int) + 1; omega) (by show (i : Int) + 1 ≤ 9223372036854775807; omega)), trivial⟩, hlt, by omega⟩
    rw [i64_in (x := 8 + (p.l.length : Int)) (by omega) (by omega), i64_in (by omega) (by omega), htk]
    push_cast
    omega
  · have hid : i = hs.length := by omega
    subst hid
    have htl : ls.take hs.length = ls := by rw [← hll, List.take_length]
    rw [htl]
    conv => whnf
    refine ⟨fun h1 => absurd (of_decide_eq_true h1) (by simp), fun _ => ?_⟩
    conv => whnf
    refine COK.seq (vcC_ok _ _ _ _ _ ?_)
    conv => whnf
    have hxm : x.rs.map Rec.l = hs.map Rec.l := by rw [hxo.map, hxl, List.take_length, hm]
    have hg12 := hg1.trans hg2
    refine OOK.call [0, 1, 5, 4] rfl rfl rfl (by kernel_rfl) rfl (f_agrees g2 sb jb db fuse dead hs x.rs s x.s A c B k e x.A x.c false hO hxo.own hxm (fun r h => (hr r h).mono hg12) (fun r h => (hxo.rows r h).mono hg2) hls (fun r h => by
      have hin : r.l ∈ ls := by
        have := List.mem_map_of_mem (f := Rec.l) h
        rw [hxm, hm] at this
        exact this
      have := hl1 _ hin; omega)) (by decide) rfl ?_
    rintro v_ g3 m_ hg3 ⟨rfl, rfl⟩
    conv => whnf
    refine ⟨fun _ => ?_, (by intro q; cases q)⟩
    conv => whnf
    have htot : total d'.fs = lens ls := by rw [hfs, ← lens_frames, ← hf1]; simp [total, lenW]
    have hu := f_used g3 db mb d' (hfok.mono (hg2.trans hg3))
    rw [htot] at hu
    refine OOK.call [2, 3] rfl rfl rfl (by kernel_rfl) rfl hu (by decide) rfl ?_
    rintro v_ g4 m_ hg4 ⟨rfl, rfl⟩
    conv => whnf
    refine ⟨fun _ => ?_, fun q => absurd q (by simp)⟩
    conv => whnf
    have hnm := f_names g4 db mb d' (hfok.mono ((hg2.trans hg3).trans hg4))
    have hkk : d'.fs.map FE.k = [kLog] := by rw [hfs]; rfl
    rw [hkk] at hnm
    refine OOK.call [2, 3] rfl rfl rfl (by kernel_rfl) rfl hnm (by decide) rfl ?_
    rintro v_ g5 m_ hg5 ⟨rfl, A5, c5, rfl, hr5⟩
    conv => whnf
    intro nb
    conv => whnf
    refine OOK.freeze 6 rfl rfl fun g6 hg6 hnb => ?_
    refine OOK.call [] rfl rfl rfl (by kernel_rfl) rfl (f_eqS g6 A5 (some ⟨nb, 0, none⟩) c5 1 [kLog] (hr5.mono hg6) (row_of (enc := encS) (l := [kLog]) (rest := []) hnb).in_ (by show 1 ≤ 1000; omega)) (by decide) rfl ?_
    rintro v_ g7 m_ hg7 ⟨rfl, rfl⟩
    conv => whnf
    have hm : g1.le g7 := ((((hg2.trans hg3).trans hg4).trans hg5).trans hg6).trans hg7
    refine COK.ret ?_
    exact .mk ⟨_, [0, 1, 2, 3, 4, 5], _, rfl, by decide, rfl, ⟨rfl, rfl, rfl, rfl, trivial⟩, x, jb, d', ⟨hxo.map, hxo.le, hxo.own, fun r hr => (hxo.rows r hr).mono hm⟩, hxl, ⟨hd'.1, hd'.2.mono hm⟩, rfl, rfl⟩
end Go.Proofs.Ytkkefknmahnjnaa
