/- WholeTexts: slices.Insert into a row of one's own. -/
import Derived.Test.YthkfnmmbjoadbaaGreatDoorYm11
import Derived.Test.YthkfnmmbjoadbaaGreatDoorYm10
import Derived.Defers
import Derived.Recover
import Derived.Tactics
import Derived.Tactics2
set_option linter.unusedVariables false
set_option linter.unusedSimpArgs false
set_option maxRecDepth 100000
namespace Go.Proofs.YthkfnmmbjoadbaaGreatDoor
open Go Go.SX

theorem f_insO (g : GH) (b vb c : Nat) (l : List (List UInt8)) (rest : List Value) (k : Nat) (x : (List UInt8)) (hk : k ≤ l.length) (hl : l.length ≤ 100000) (hc : (l.flatMap encK ++ rest).length = c * 1) (hlc : l.length ≤ c) :
    Tri Tryz.prog 38 [.slice (some ⟨b, 0, none⟩) l.length c, .int .i64 (k : Int), .slice (some ⟨vb, 0, none⟩) 1 1] g [⟨b, .cells (l.flatMap encK ++ rest) 9 (0, 0)⟩, ⟨vb, .cells (encK x) 9 (0, 0)⟩]
      fun v g' m' => ∃ b' c' rest', v = .slice (some ⟨b', 0, none⟩) (l.length + 1) c' ∧ l.length + 1 ≤ c' ∧ ((insAt l k x).flatMap encK ++ rest').length = c' * 1 ∧ ((∃ s0 s1, m' = [⟨b, s0⟩, ⟨vb, s1⟩, ⟨b', .cells ((insAt l k x).flatMap encK ++ rest') 9 (0, 0)⟩]) ∨ (b' = b ∧ ∃ s1, m' = [⟨b', .cells ((insAt l k x).flatMap encK ++ rest') 9 (0, 0)⟩, ⟨vb, s1⟩])) := by
  have hlen := flat_len encK_len l
  have hx1 : (encK x).length = 1 * 1 := by rw [encK_len]
  refine Tri.vc [.val (.slice (some ⟨b, 0, none⟩) l.length c), .val (.int .i64 (k : Int)), .val (.slice (some ⟨vb, 0, none⟩) 1 1)] Tryz.func38 rfl Tryz.ntmps38 rfl rfl ?_
  have hrl : rest.length = c * 1 - l.length * 1 := by rw [List.length_append, hlen] at hc; omega
  have ht : ((l.take k).flatMap encK).length = k * 1 := by rw [flat_len encK_len, List.length_take]; congr 1; omega
  have hd : ((l.drop k).flatMap encK).length = (l.length - k) * 1 := by rw [flat_len encK_len, List.length_drop]
  have hsp : l.flatMap encK = (l.take k).flatMap encK ++ (l.drop k).flatMap encK := by rw [← List.flatMap_append, List.take_append_drop]
  have hins : ∀ r, (l.take k).flatMap encK ++ (encK x) ++ ((l.drop k).flatMap encK ++ r) = (insAt l k x).flatMap encK ++ r := fun r => by
    unfold insAt
    rw [List.flatMap_append, List.flatMap_cons]
    simp only [List.append_assoc]
  have h1x : ∀ v ∈ (encK x), v.oneCell' = true := encK_one x
  have h1l : ∀ v ∈ (l.drop k).flatMap encK, v.oneCell' = true := fun v hv => by
    obtain ⟨y, _, hy⟩ := List.mem_flatMap.1 hv
    exact encK_one y v hy
  conv => whnf
  refine ⟨⟨by omega, by omega⟩, ?_⟩
  conv => whnf
  refine ⟨fun h1 => absurd h1 (by decide), fun _ => ?_⟩
  conv => whnf
  refine ⟨fun h1 => ?_, fun h1 => ?_⟩
  · have hk1 : k = l.length := by have := eq_of_beq h1; omega
    subst hk1
    conv => whnf
    refine OOK.appendOwn (sn := l.length) (sc := c) (k := 1) (old := l.flatMap encK) (ys := (encK x)) 0 rfl rfl rfl rfl (.inl ⟨_, rfl⟩) rfl (size := 1) (bytes := 16) rfl rfl rfl (by decide) rfl rfl (by rw [← hlen, List.take_left']; rfl) hlen hc hx1 (Src.own (i := 1) (q := 0) rfl hx1 (fun j v hj => by rw [Nat.zero_add]; exact hj)) h1x (by omega) ?_
    intro b' c' rest' hle hlc' _
    conv => whnf
    have hi := hins rest'
    rw [List.take_length, List.drop_length, List.flatMap_nil, List.nil_append] at hi
    rw [hi] at hlc' ⊢
    exact .mk ⟨_, [0, 1, 2], _, rfl, by decide, rfl, ⟨rfl, rfl, trivial⟩, b', c', rest', rfl, hle, by simpa using hlc', .inl ⟨_, _, rfl⟩⟩
  · have hk1 : k < l.length := by
      have : ¬ ((k : Int) = (l.length : Int)) := by simpa using h1
      omega
    have hw1 : IntKind.i64.wrap ((l.length : Int) + ((1 : Nat) : Int)) = ((l.length + 1 : Nat) : Int) := i64_in (by omega) (by omega)
    have hw2 : IntKind.i64.wrap ((k : Int) + ((1 : Nat) : Int)) = ((k + 1 : Nat) : Int) := i64_in (by omega) (by omega)
    have hw3 : IntKind.i64.wrap (((l.length + 1 : Nat) : Int) - (k : Int)) = ((l.length + 1 - k : Nat) : Int) := by rw [i64_in (by omega) (by omega)]; omega
    conv => whnf
    refine ⟨fun h2 => ?_, fun h2 => ?_⟩
    · have hcc : c < l.length + 1 := by rw [hw1] at h2; have := of_decide_eq_true h2; omega
      conv => whnf
      refine ⟨⟨by omega, by omega⟩, ?_⟩
      conv => whnf
      rw [hw1, hw3]
      refine OOK.appendZ (A := some ⟨b, 0, none⟩) (sn := k) (sc := c) (N := l.length + 1 - k) (old := (l.take k).flatMap encK) rfl (by show some (Value.slice _ _ _) = _; rw [if_neg (by omega)]; rfl) rfl rfl rfl rfl (size := 1) (bytes := 16) rfl rfl rfl (by decide) (by decide) rfl
        (Src.own (i := 0) (q := 0) rfl ht (fun j v hj => by rw [Nat.zero_add, hsp, List.append_assoc, List.getElem?_append_left (List.getElem?_eq_some_iff.1 hj).1]; exact hj)) ht (by omega) (by omega) (by omega) ?_
      intro b' c' zs rest' hle hzl hlc'
      have hkn : k + (l.length + 1 - k) = l.length + 1 := by omega
      rw [hkn] at hle ⊢
      conv => whnf
      refine ⟨⟨by omega, by omega⟩, ?_⟩
      conv => whnf
      refine OOK.copyOwn (b := b') (q := 0 + k * 1) (dn := l.length + 1 - k) (dc := c' - k) (k := 1) (ys := (encK x)) (t' := 9) 2 rfl (by show some (Value.slice _ _ _) = _; rw [if_neg (by omega)]; rfl) rfl rfl rfl (size := 1) rfl rfl
        (SrcN.own (i := 1) (q := 0) rfl (by rw [show Nat.min 1 (l.length + 1 - k) = 1 from Nat.min_eq_left (by omega)]; exact hx1) (fun j v hj => by rw [Nat.zero_add]; exact hj)) h1x (by rw [List.length_append, List.length_append, ht, hzl, Nat.zero_add]; show k * 1 + _ ≤ _; rw [encK_len]; omega)
        (cs' := (l.take k).flatMap encK ++ (encK x) ++ (zs.drop 1 ++ rest')) (by
          rw [show (l.take k).flatMap encK ++ zs ++ rest' = (l.take k).flatMap encK ++ zs.take 1 ++ (zs.drop 1 ++ rest') by rw [List.append_assoc, List.append_assoc, ← List.append_assoc (zs.take 1), List.take_append_drop]]
          exact over (by rw [ht, Nat.zero_add]) (by rw [List.length_take, hzl]; show min 1 _ = _; rw [encK_len]; omega)) ?_
      conv => whnf
      refine COK.draw [] (by kernel_rfl) (by kernel_rfl) ?_
      conv => whnf
      rw [hw2]
      refine ⟨⟨by omega, by omega⟩, ?_⟩
      conv => whnf
      refine ⟨⟨by omega, by omega⟩, ?_⟩
      conv => whnf
      refine OOK.copyOwn (b := b') (q := 0 + (k + 1) * 1) (dn := l.length - k) (dc := c' - (k + 1)) (k := l.length - k) (ys := (l.drop k).flatMap encK) (t' := 9) 2 rfl (by show some (Value.slice _ _ _) = _; rw [if_neg (by show ¬ (c' = k + 1); omega)]; show some (Value.slice _ (l.length + 1 - (k + 1)) _) = _; rw [show l.length + 1 - (k + 1) = l.length - k by omega]; rfl) rfl rfl rfl (size := 1) rfl rfl
        (by
          show SrcN _ _ _ (Value.slice (if c = k then some ⟨b, 0, none⟩ else some (addN ⟨b, 0, none⟩ (k * 1))) (l.length - k) (c - k)) _ _ _ _
          rw [if_neg (by omega)]
          exact SrcN.own (i := 0) (q := 0 + k * 1) rfl (by rw [hd]; show _ = min _ _ * 1; rw [Nat.min_self]) (fun j v hj => by
            rw [Nat.zero_add, ← ht, hsp, List.append_assoc, List.getElem?_append_right (by omega), Nat.add_sub_cancel_left, List.getElem?_append_left (List.getElem?_eq_some_iff.1 hj).1]; exact hj)) h1l
        (by simp only [List.length_append, List.length_drop, ht, hzl, hd, encK_len]; omega)
        (cs' := (l.take k).flatMap encK ++ (encK x) ++ (l.drop k).flatMap encK ++ rest') (by
          rw [show (l.take k).flatMap encK ++ (encK x) ++ (zs.drop 1 ++ rest') = (l.take k).flatMap encK ++ (encK x) ++ zs.drop 1 ++ rest' by simp only [List.append_assoc]]
          exact over (by rw [List.length_append, ht, encK_len]; omega) (by rw [List.length_drop, hzl, hd]; omega)) ?_
      conv => whnf
      refine ⟨⟨rfl, rfl, rfl, trivial⟩, ?_⟩
      conv => whnf
      have hi := hins rest'
      rw [← List.append_assoc] at hi
      rw [hi]
      refine .mk ⟨_, [0, 1, 2], _, rfl, by decide, rfl, ⟨rfl, rfl, trivial⟩, b', c', rest', rfl, hle, ?_, .inl ⟨_, _, rfl⟩⟩
      rw [← hi]
      simp only [List.length_append, ht, hd, encK_len, hzl] at hlc' ⊢
      omega
    · have hcc : l.length + 1 ≤ c := by rw [hw1] at h2; have := of_decide_eq_false h2; omega
      have hc0 : ¬ (c = 0) := by omega
      conv => whnf
      rw [hw1]
      refine ⟨⟨by omega, by omega⟩, ?_⟩
      rw [if_neg hc0]
      conv => whnf
      rw [hw2]
      refine ⟨⟨by omega, by omega⟩, ?_⟩
      conv => whnf
      refine OOK.extern (v := .bool false) rfl rfl rfl (fun w hw => ?_) ?_
      · have hb0 := hw.own ⟨b, _⟩ (List.mem_cons_self ..) _ rfl
        have hb1 := hw.own ⟨vb, _⟩ (List.mem_cons_of_mem _ (List.mem_cons_self ..)) _ rfl
        have hne : vb ≠ b := fun h => by
          have := hw.inj 1 0 _ _ rfl rfl rfl rfl h
          omega
        refine (run_callFunc_extern rfl (by kernel_rfl) (by kernel_rfl) (by kernel_rfl) (e := Extern.SlicesOverlaps.overlaps #[26, 26] #[4]) (by kernel_rfl) _ w).trans ?_
        have hz : ∀ w, (Go.sizeOf 9).run Tryz.prog w = .ok 1 w := fun w => (run_size (P := Tryz.prog) (t := 9) rfl w).trans rfl
        have := Lib.run_overlaps_apart (P := Tryz.prog) w 26 4 9 rfl 1 hz ⟨vb, 0, none⟩ ⟨b, 0 + 0 * 1 + (k + 1) * 1, none⟩ 1 1 (l.length + 1 - (k + 1)) (c - (k + 1)) hne 9 9 (encK x).toArray.size (l.flatMap encK ++ rest).toArray.size
          (by simp only [World.shape?]; rw [hb1]) (by simp only [World.shape?]; rw [hb0]) (by rw [List.size_toArray, hc]; omega) (by simp only [World.frozen?]; rw [hb1]; rfl) (by simp only [World.frozen?]; rw [hb1]; rfl)
        show ((Extern.SlicesOverlaps.overlaps #[26, 26] #[4] #[.slice (some ⟨vb, 0, none⟩) 1 1, .slice (if c = k + 1 then some ⟨b, 0 + 0 * 1, none⟩ else some ⟨b, 0 + 0 * 1 + (k + 1) * 1, none⟩) (l.length + 1 - (k + 1)) (c - (k + 1))]).run Tryz.prog w).andThen _ = _
        rw [if_neg (by omega), this]
        rfl
      conv => whnf
      refine ⟨fun _ => ?_, fun h3 => (by cases h3)⟩
      conv => whnf
      refine COK.draw [] (by kernel_rfl) (by kernel_rfl) ?_
      conv => whnf
      rw [hw2]
      refine ⟨⟨by omega, by show (k : Int) + 1 ≤ _; omega⟩, ?_⟩
      conv => whnf
      refine ⟨⟨by omega, by omega⟩, ?_⟩
      conv => whnf
      have hr2 : 1 ≤ rest.length := by omega
      have hspk : (l.drop k).flatMap encK = (encK l[k]) ++ (l.drop (k + 1)).flatMap encK := by
        rw [← List.getElem_cons_drop (h := hk1), List.flatMap_cons]
      have ht1 : ((l.take (k + 1)).flatMap encK).length = (k + 1) * 1 := by rw [flat_len encK_len, List.length_take]; congr 1; omega
      have hd1 : ((l.drop (k + 1)).flatMap encK).length = (l.length - (k + 1)) * 1 := by rw [flat_len encK_len, List.length_drop]
      have hsp1 : l.flatMap encK = (l.take (k + 1)).flatMap encK ++ (l.drop (k + 1)).flatMap encK := by rw [← List.flatMap_append, List.take_append_drop]
      have htk : (l.take (k + 1)).flatMap encK = (l.take k).flatMap encK ++ (encK l[k]) := by
        rw [List.take_succ_eq_append_getElem hk1, List.flatMap_append]; simp
      refine OOK.copyOwn (b := b) (q := 0 + 0 * 1 + (k + 1) * 1) (dn := l.length - k) (dc := c - (k + 1)) (k := l.length + 1 - k) (ys := (l.drop k).flatMap encK) (t' := 9) 0 rfl (by show some (Value.slice (if c = k + 1 then _ else _) (l.length + 1 - (k + 1)) _) = _; rw [if_neg (by omega), show l.length + 1 - (k + 1) = l.length - k by omega]; rfl) rfl rfl rfl (size := 1) rfl rfl
        (by
          show SrcN _ _ _ (Value.slice (if c = k then some ⟨b, 0 + 0 * 1, none⟩ else some (addN ⟨b, 0 + 0 * 1, none⟩ (k * 1))) (l.length + 1 - k) (c - k)) _ _ _ _
          rw [if_neg (by omega)]
          exact SrcN.own (i := 0) (q := 0 + 0 * 1 + k * 1) rfl (by rw [hd]; show _ = min _ _ * 1; rw [Nat.min_eq_right (by omega)]) (fun j v hj => by
            rw [show 0 + 0 * 1 + k * 1 = k * 1 by omega, ← ht, hsp, List.append_assoc, List.getElem?_append_right (by omega), Nat.add_sub_cancel_left, List.getElem?_append_left (List.getElem?_eq_some_iff.1 hj).1]; exact hj)) h1l
        (by simp only [List.length_append, hlen, hd]; omega)
        (cs' := (l.take (k + 1)).flatMap encK ++ (l.drop k).flatMap encK ++ rest.drop 1) (by
          rw [show l.flatMap encK ++ rest = (l.take (k + 1)).flatMap encK ++ ((l.drop (k + 1)).flatMap encK ++ rest.take 1) ++ rest.drop 1 by rw [hsp1]; simp only [List.append_assoc, List.take_append_drop]]
          exact over (by rw [ht1]; omega) (by rw [List.length_append, hd1, hd, List.length_take]; omega)) ?_
      conv => whnf
      refine ⟨⟨rfl, rfl, trivial⟩, ?_⟩
      conv => whnf
      refine ⟨⟨by omega, by omega⟩, ?_⟩
      conv => whnf
      refine OOK.copyOwn (b := b) (q := 0 + 0 * 1 + k * 1) (dn := l.length + 1 - k) (dc := c - k) (k := 1) (ys := (encK x)) (t' := 9) 0 rfl (by show some (Value.slice (if c = k then _ else _) (l.length + 1 - k) _) = _; rw [if_neg (by omega)]; rfl) rfl rfl rfl (size := 1) rfl rfl
        (SrcN.own (i := 1) (q := 0) rfl (by rw [show Nat.min 1 (l.length + 1 - k) = 1 from Nat.min_eq_left (by omega)]; exact hx1) (fun j v hj => by rw [Nat.zero_add]; exact hj)) h1x (by simp only [List.length_append, ht1, hd, encK_len]; omega)
        (cs' := (l.take k).flatMap encK ++ (encK x) ++ ((l.drop k).flatMap encK ++ rest.drop 1)) (by
          rw [show (l.take (k + 1)).flatMap encK ++ (l.drop k).flatMap encK ++ rest.drop 1 = (l.take k).flatMap encK ++ (encK l[k]) ++ ((l.drop k).flatMap encK ++ rest.drop 1) by rw [htk]; simp only [List.append_assoc]]
          exact over (by rw [ht]; omega) (by rw [encK_len, encK_len])) ?_
      conv => whnf
      have hi := hins (rest.drop 1)
      rw [hi]
      refine .mk ⟨_, [0, 1], _, rfl, by decide, rfl, ⟨rfl, rfl, trivial⟩, b, c, rest.drop 1, rfl, hcc, ?_, .inr ⟨rfl, _, rfl⟩⟩
      rw [← hi]
      simp only [List.length_append, List.length_drop, ht, hd, encK_len]
      omega
theorem f_insO0 (g : GH) (A : Option Addr) (vb : Nat) (x : (List UInt8)) :
    Tri Tryz.prog 38 [.slice A 0 0, .int .i64 0, .slice (some ⟨vb, 0, none⟩) 1 1] g [⟨vb, .cells (encK x) 9 (0, 0)⟩]
      fun v g' m' => ∃ b' c' rest' s0, v = .slice (some ⟨b', 0, none⟩) 1 c' ∧ 1 ≤ c' ∧ ([x].flatMap encK ++ rest').length = c' * 1 ∧ m' = [s0, ⟨b', .cells ([x].flatMap encK ++ rest') 9 (0, 0)⟩] := by
  have hx1 : (encK x).length = 1 * 1 := by rw [encK_len]
  refine Tri.vc [.val (.slice A 0 0), .val (.int .i64 0), .val (.slice (some ⟨vb, 0, none⟩) 1 1)] Tryz.func38 rfl Tryz.ntmps38 rfl rfl ?_
  conv => whnf
  refine ⟨⟨Int.le_refl _, Int.le_refl _⟩, ?_⟩
  conv => whnf
  refine ⟨fun h1 => absurd h1 (by decide), fun _ => ?_⟩
  conv => whnf
  refine ⟨fun h1 => ?_, fun h1 => absurd h1 (by decide)⟩
  conv => whnf
  refine OOK.appendNew (old := []) (ys := (encK x)) (k := 1) rfl rfl rfl rfl (.inl ⟨_, rfl⟩) rfl (size := 1) (bytes := 16) rfl rfl rfl (by decide) rfl Src.nil' rfl hx1 (by decide) (Src.own (i := 0) (q := 0) rfl hx1 (fun j v hj => by rw [Nat.zero_add]; exact hj)) (by decide) ?_
  intro b' c' rest' hle hlc
  conv => whnf
  rw [show encK x = [x].flatMap encK by simp] at hlc ⊢
  exact .mk ⟨_, [0, 1], _, rfl, by decide, rfl, ⟨rfl, trivial⟩, b', c', rest', _, rfl, by omega, by simpa using hlc, rfl⟩
end Go.Proofs.YthkfnmmbjoadbaaGreatDoor
/- WholeTexts: drawn blanks and literals. -/
set_option linter.unusedVariables false
set_option linter.unusedSimpArgs false
set_option maxRecDepth 100000
namespace Go.Proofs.YthkfnmmbjoadbaaGreatDoor
open Go Go.SX

def kBl : List (List UInt8) := [[], [], [], [32], [10], [9, 32], [13, 10, 32]]
theorem f_blank (g : GH) (hB : Nat) (h : Hd) (hh : h.ok g) : Tri Tryz.prog 9 [.pointer (some ⟨hB, 0, none⟩)] g [h.slot hB] fun v g' m' => ∃ (b : List UInt8) (h' : Hd), v = .string (str b) ∧ Blank b ∧ b.length ≤ 3 ∧ h'.ok g' ∧ m' = [h'.slot hB] := by
  refine Tri.vc [.own 0 0] Tryz.func9 rfl Tryz.ntmps9 rfl rfl ?_
  conv => whnf
  intro tb
  conv => whnf
  refine OOK.call [0] rfl rfl rfl (by kernel_rfl) rfl (hand_n g hB h 7 hh (by omega) (by omega)) (by decide) rfl ?_
  rintro v_ g2 m_ hg2 ⟨u, h2, rfl, u0, u1, hnh2, hh2, rfl⟩
  conv => whnf
  refine ⟨⟨by omega, by omega⟩, ?_⟩
  obtain ⟨k, rfl⟩ : ∃ k : Nat, u = k := Int.eq_ofNat_of_zero_le u0
  obtain ⟨v, hv, hv0, hv1⟩ : ∃ v : List UInt8, kBl[k]? = some v ∧ Blank v ∧ v.length ≤ 3 := by
    have : k < 7 := by omega
    match k, this with
    | 0, _ => exact ⟨_, rfl, blank_nil, by decide⟩
    | 1, _ => exact ⟨_, rfl, blank_nil, by decide⟩
    | 2, _ => exact ⟨_, rfl, blank_nil, by decide⟩
    | 3, _ => exact ⟨_, rfl, by unfold Blank; decide, by decide⟩
    | 4, _ => exact ⟨_, rfl, by unfold Blank; decide, by decide⟩
    | 5, _ => exact ⟨_, rfl, by unfold Blank; decide, by decide⟩
    | 6, _ => exact ⟨_, rfl, by unfold Blank; decide, by decide⟩
  conv => whnf
  refine OOK.yn (YN.loadOwn (v := .string (str v)) 1 rfl rfl rfl rfl ?_ ?_)
  · have : (kBl.map fun s => Value.string (str s))[k]? = some (.string (str v)) := by rw [List.getElem?_map, hv]; rfl
    show (kBl.map fun s => Value.string (str s))[0 + k * 1]? = _
    rw [Nat.mul_one, Nat.zero_add]
    exact this
  conv => whnf
  exact .mk ⟨_, [0], _, rfl, by decide, rfl, ⟨rfl, trivial⟩, v, h2, rfl, hv0, hv1, hh2, rfl⟩
structure Qs where
  h : Hd
  i : Nat
  y : List UInt8
theorem hexT_len (c : UInt8) : (hexT c).length = 4 := rfl
theorem QB.snoc {s y : List UInt8} (h : QB s y) (c : UInt8) {e : List UInt8} (he : e = byteT c ∨ e = hexT c) : QB (s ++ [c]) (y ++ e) := by
  induction h with
  | nil => have := QB.cons c [] e [] he .nil; simpa using this
  | cons c' s' e' x' h1 h2 ih => rw [List.append_assoc, List.cons_append]; exact .cons c' _ e' _ h1 ih
theorem f_hquote (g : GH) (hB : Nat) (h : Hd) (hh : h.ok g) (s : List UInt8) (hs : s.length ≤ 6) : Tri Tryz.prog 37 [.pointer (some ⟨hB, 0, none⟩), .string (str s)] g [h.slot hB] fun v g' m' => ∃ (x : List UInt8) (h' : Hd), v = .string (str x) ∧ Quo s x ∧ x.length ≤ 26 ∧ h'.ok g' ∧ m' = [h'.slot hB] := by
  refine Tri.vc [.own 0 0, .val (.string (str s))] Tryz.func37 rfl Tryz.ntmps37 rfl rfl ?_
  conv => whnf
  refine COK.loop (α := Qs) (fun y => [(0, .own 0 0), (1, .val (.string (str s))), (5, .val (.string (str ([34] ++ y.y)))), (8, .val (.int .i64 s.length)), (9, .val (.int .i64 y.i))])
    (fun y => [y.h.slot hB]) (fun y g => y.h.ok g ∧ y.i ≤ s.length ∧ QB (s.take y.i) y.y ∧ y.y.length ≤ 4 * y.i) (fun y => s.length - y.i) ⟨h, 0, []⟩ [0] (Sub.of (by decide) rfl ⟨rfl, rfl, rfl, int_eq (by rw [str_size]), rfl, trivial⟩) ⟨hh, Nat.zero_le _, .nil, Nat.le_refl _⟩ ?_
  rintro ⟨h1, i, y⟩ g1 hg1 ⟨hh1, hi, hq, hyl⟩
  simp only at hh1 hi hq hyl
  dsimp only
  by_cases hlt : i < s.length
  · obtain ⟨c, hc⟩ : ∃ c, s[i]? = some c := ⟨_, List.getElem?_eq_getElem hlt⟩
    refine vcC_ok _ _ _ _ _ ?_
    conv => whnf
    refine ⟨fun _ => ?_, fun q => absurd (of_decide_eq_false q) (by omega)⟩
    conv => whnf
    refine OOK.call [0] rfl rfl rfl (by kernel_rfl) rfl (hand_n g1 hB h1 4 hh1 (by omega) (by omega)) (by decide) rfl ?_
    rintro v_ g2 m_ hg2 ⟨u, h2, rfl, u0, u1, hnh2, hh2, rfl⟩
    conv => whnf
    have hbc := byteAt_str hc
    have ht : s.take (i + 1) = s.take i ++ [c] := by rw [List.take_add_one, hc]; rfl
    refine ⟨fun q => ?_, fun q => ?_⟩
    · conv => whnf
      refine ⟨⟨by omega, by rw [str_size]; omega⟩, ?_⟩
      conv => whnf
      rw [show ((i : Int)).toNat = i from rfl, hbc]
      refine OOK.call [] rfl rfl rfl (by kernel_rfl) rfl (f_hex g2 c) (by decide) rfl ?_
      rintro v_ g3 m_ hg3 ⟨rfl, rfl⟩
      conv => whnf
      rw [str_app]
      refine ⟨by rw [str_size, str_size]; simp only [List.length_append, List.length_cons, List.length_nil, hexT_len]; omega, ?_⟩
      conv => whnf
      refine ⟨⟨h2, i + 1, y ++ hexT c⟩, [0], Sub.of (by decide) rfl ⟨rfl, rfl, by rw [List.append_assoc]; rfl, rfl, int_eq (i64_in (by omega) (by omega)), trivial⟩, ⟨hh2.mono hg3, hlt, ?_, ?_⟩, by show s.length - (i + 1) < s.length - i; omega⟩
      · show QB (s.take (i + 1)) _
        rw [ht]; exact hq.snoc c (.inr rfl)
      · show (y ++ hexT c).length ≤ 4 * (i + 1)
        rw [List.length_append, hexT_len]; omega
    · conv => whnf
      refine ⟨⟨by omega, by rw [str_size]; omega⟩, ?_⟩
      conv => whnf
      rw [show ((i : Int)).toNat = i from rfl, hbc]
      refine OOK.call [] rfl rfl rfl (by kernel_rfl) rfl (f_byte g2 c) (by decide) rfl ?_
      rintro v_ g3 m_ hg3 ⟨rfl, rfl⟩
      conv => whnf
      have hbl := byteT_len c
      rw [str_app]
      refine ⟨by rw [str_size, str_size]; simp only [List.length_append, List.length_cons, List.length_nil]; omega, ?_⟩
      conv => whnf
      refine ⟨⟨h2, i + 1, y ++ byteT c⟩, [0], Sub.of (by decide) rfl ⟨rfl, rfl, by rw [List.append_assoc]; rfl, rfl, int_eq (i64_in (by omega) (by omega)), trivial⟩, ⟨hh2.mono hg3, hlt, ?_, ?_⟩, by show s.length - (i + 1) < s.length - i; omega⟩
      · show QB (s.take (i + 1)) _
        rw [ht]; exact hq.snoc c (.inl rfl)
      · show (y ++ byteT c).length ≤ 4 * (i + 1)
        rw [List.length_append]; omega
  · have hid : i = s.length := by omega
    subst hid
    refine vcC_ok _ _ _ _ _ ?_
    conv => whnf
    refine ⟨fun q => absurd (of_decide_eq_true q) (by omega), fun _ => ?_⟩
    conv => whnf
    rw [show (⟨#[34]⟩ : ByteArray) = str [34] from rfl, str_app]
    refine ⟨by rw [str_size, str_size]; simp only [List.length_append, List.length_cons, List.length_nil]; omega, ?_⟩
    conv => whnf
    rw [List.take_length] at hq
    exact .mk ⟨_, [0], _, rfl, by decide, rfl, ⟨rfl, trivial⟩, _, h1, rfl, ⟨y, hq, rfl⟩, by simp only [List.length_append, List.length_cons, List.length_nil]; omega, hh1, rfl⟩
end Go.Proofs.YthkfnmmbjoadbaaGreatDoor
/- WholeTexts: a text of a payload is drawn. -/
set_option linter.unusedVariables false
set_option linter.unusedSimpArgs false
set_option maxRecDepth 100000
namespace Go.Proofs.YthkfnmmbjoadbaaGreatDoor
open Go Go.SX

def lbd : Nat → Nat
  | 0 => 26
  | d + 1 => 4 * lbd d + 161
theorem lbd_lo : ∀ d, 26 ≤ lbd d
  | 0 => Nat.le_refl _
  | d + 1 => by have := lbd_lo d; unfold lbd; omega
structure Lz where
  h : Hd
  i : Nat
  ps : List (List UInt8)
  s : Slot
  A : Option Addr
  c : Nat
def PartsOk (d : Nat) (kind : Int) (its : List T) (keys : List (List UInt8)) (i : Nat) (ps : List (List UInt8)) : Prop :=
  ps.length = i ∧ (∀ p ∈ ps, p.length ≤ lbd d + 39) ∧ ((kind = 4 ∧ ∃ qs : List (T × List UInt8), qs.map Prod.fst = its.take i ∧ (∀ q ∈ qs, LPart (Lo d) q) ∧ qs.map Prod.snd = ps) ∨
    (kind = 5 ∧ ∃ qs : List ((List UInt8 × T) × List UInt8), (qs.map Prod.fst).Perm ((keys.zip its).take i) ∧ (∀ q ∈ qs, MPart (Lo d) q) ∧ qs.map Prod.snd = ps))
theorem insAt_len {α : Type} (l : List α) (k : Nat) (x : α) (h : k ≤ l.length) : (insAt l k x).length = l.length + 1 := by
  unfold insAt
  rw [List.length_append, List.length_cons, List.length_take, List.length_drop]
  omega
theorem insAt_map {α β : Type} (f : α → β) (l : List α) (k : Nat) (x : α) : (insAt l k x).map f = insAt (l.map f) k (f x) := by simp [insAt]
theorem insAt_perm {α : Type} (l : List α) (k : Nat) (x : α) : (insAt l k x).Perm (l ++ [x]) := by
  unfold insAt
  refine List.perm_middle.trans ?_
  rw [List.take_append_drop]
  exact (List.perm_append_singleton x l).symm
theorem insAt_mem {α : Type} {l : List α} {k : Nat} {x y : α} (h : y ∈ insAt l k x) : y ∈ l ∨ y = x := by
  have := (insAt_perm l k x).mem_iff.1 h
  simpa using this
theorem insAt_end {α : Type} (l : List α) (x : α) : insAt l l.length x = l ++ [x] := by simp [insAt]
theorem PartsOk.list {d : Nat} {its : List T} {keys : List (List UInt8)} {i k : Nat} {ps : List (List UInt8)} {t : T} {p : List UInt8} (h : PartsOk d 4 its keys i ps) (ht : its[i]? = some t) (hk : k = ps.length) (hp : LPart (Lo d) (t, p)) (hpl : p.length ≤ lbd d + 39) : PartsOk d 4 its keys (i + 1) (insAt ps k p) := by
  obtain ⟨h1, h2, h3⟩ := h
  refine ⟨by rw [insAt_len _ _ _ (by omega)]; omega, fun q hq => ?_, .inl ⟨rfl, ?_⟩⟩
  · rcases insAt_mem hq with hq | rfl
    · exact h2 q hq
    · exact hpl
  · rcases h3 with ⟨_, qs, a1, a2, a3⟩ | ⟨h, _⟩
    · refine ⟨qs ++ [(t, p)], ?_, fun q hq => ?_, ?_⟩
      · rw [List.map_append, a1, List.take_add_one, ht]; rfl
      · rcases List.mem_append.1 hq with hq | hq
        · exact a2 q hq
        · rw [List.mem_singleton.1 hq]; exact hp
      · rw [hk, insAt_end, List.map_append, a3]; rfl
    · exact absurd h (by decide)
theorem PartsOk.map {d : Nat} {its : List T} {keys : List (List UInt8)} {i k : Nat} {ps : List (List UInt8)} {t : T} {ky p : List UInt8} (h : PartsOk d 5 its keys i ps) (ht : its[i]? = some t) (hky : keys[i]? = some ky) (hk : k ≤ ps.length) (hp : MPart (Lo d) ((ky, t), p)) (hpl : p.length ≤ lbd d + 39) : PartsOk d 5 its keys (i + 1) (insAt ps k p) := by
  obtain ⟨h1, h2, h3⟩ := h
  refine ⟨by rw [insAt_len _ _ _ (by omega)]; omega, fun q hq => ?_, .inr ⟨rfl, ?_⟩⟩
  · rcases insAt_mem hq with hq | rfl
    · exact h2 q hq
    · exact hpl
  · rcases h3 with ⟨h, _⟩ | ⟨_, qs, a1, a2, a3⟩
    · exact absurd h (by decide)
    · have hz : (keys.zip its)[i]? = some (ky, t) := by rw [List.getElem?_zip_eq_some]; exact ⟨hky, ht⟩
      refine ⟨insAt qs k ((ky, t), p), ?_, fun q hq => ?_, ?_⟩
      · rw [List.take_add_one, hz]
        refine ((insAt_perm qs k ((ky, t), p)).map Prod.fst).trans ?_
        rw [List.map_append]
        exact a1.append_right _
      · rcases insAt_mem hq with hq | rfl
        · exact a2 q hq
        · exact hp
      · rw [insAt_map, a3]
theorem PartsOk.lo {d : Nat} {kind : Int} {its : List T} {keys : List (List UInt8)} {ps : List (List UInt8)} (h : PartsOk d kind its keys its.length ps) (hk : kind = 5 → keys.length = its.length ∧ Asc keys) (hk4 : kind = 4 → keys = []) (hne : its ≠ []) : Lo (d + 1) (.mk kind 0 [] its keys) ((if kind = 5 then [123] else [91]) ++ joinB [44] ps ++ (if kind = 5 then [125] else [93])) := by
  obtain ⟨h1, h2, ⟨rfl, qs, a1, a2, a3⟩ | ⟨rfl, qs, a1, a2, a3⟩⟩ := h
  · rw [hk4 rfl, ← a3, if_neg (by decide), if_neg (by decide)]
    rw [List.take_length] at a1
    exact lo_list (fun e => hne (by rw [← a1, e]; rfl)) a1 a2
  · obtain ⟨hkl, hasc⟩ := hk rfl
    rw [← a3, if_pos rfl, if_pos rfl]
    rw [List.take_of_length_le (by rw [List.length_zip]; omega)] at a1
    refine lo_map hkl hasc (fun e => hne ?_) a1 a2
    have := a1.length_eq
    rw [e, List.length_zip, hkl, Nat.min_self] at this
    exact List.length_eq_zero_iff.1 this.symm
theorem parts_len {d : Nat} {kind : Int} {its : List T} {keys : List (List UInt8)} {i : Nat} {ps : List (List UInt8)} (h : PartsOk d kind its keys i ps) (hi : i ≤ 4) : (joinB [44] ps).length ≤ 4 * lbd d + 159 := by
  obtain ⟨h1, h2, _⟩ := h
  cases ps with
  | nil => simp [joinB]
  | cons x r =>
    have h3 := sumL_bound (lbd d + 39) (x :: r) h2
    have h4 : (lbd d + 39) * (x :: r).length ≤ (lbd d + 39) * 4 := Nat.mul_le_mul_left _ (by omega)
    rw [join_len]
    simp only [List.length_cons, List.length_nil] at h1 ⊢
    omega
theorem f_loose (v : Val) : ∀ (d : Nat) (g : GH) (hB : Nat) (h : Hd), h.ok g → v.Ok g → WF d v.t → d ≤ 4 → TabG g → Tri Tryz.prog 10 [.pointer (some ⟨hB, 0, none⟩), v.val] g [h.slot hB] fun v' g' m' => ∃ (s : List UInt8) (h' : Hd), v' = .string (str s) ∧ Lo d v.t s ∧ s.length ≤ lbd d ∧ h'.ok g' ∧ m' = [h'.slot hB] := by
  induction v using Val.ind with
  | h kind int text items iA ic keys kA kc ih =>
    intro d g hB h hh hv hw hd ht
    have hvo := hv
    obtain ⟨hi, hk, hic, hkc, hb, hit⟩ := hv
    have hw0 := hw
    rw [Val.t_mk] at hw ⊢
    have hlo := lbd_lo d
    refine Tri.cok [.own 0 0, .val (Val.mk kind int text items iA ic keys kA kc).val] Tryz.func10 rfl Tryz.ntmps10 rfl rfl ?_
    refine COK.seq (vcC_ok _ _ _ _ _ ?_)
    conv => whnf
    intro b1
    conv => whnf
    have hdr : ∀ (x : T), WF 0 x → x.txt.length ≤ lbd d := fun x hx => Nat.le_trans (txt_len x 0 hx) hlo
    by_cases hk3 : kind < 3
    · refine vcC_ok _ _ _ _ _ ?_
      conv => whnf
      refine ⟨fun _ => ?_, fun q => absurd (of_decide_eq_false q) (by omega)⟩
      conv => whnf
      refine OOK.call [] rfl rfl rfl (by kernel_rfl) rfl (f_ltext (Val.mk kind int text items iA ic keys kA kc) d g hvo hw0 (by omega) ht) (by decide) rfl ?_
      rintro v_ g1 m_ hg1 ⟨rfl, rfl⟩
      conv => whnf
      rw [Val.t_mk]
      refine .mk ⟨_, [0], _, rfl, by decide, rfl, ⟨rfl, trivial⟩, _, h, rfl, lo_txt _ d hw, hdr _ ?_, hh.mono hg1, rfl⟩
      rcases hw.inv with ⟨rfl, rfl, rfl, he, rfl⟩ | ⟨rfl, hi1, rfl, he, rfl⟩ | ⟨rfl, h1, h2, rfl, he, rfl⟩ | ⟨rfl, _⟩ | ⟨_, _, rfl, _⟩ | ⟨_, _, rfl, _⟩
      · rw [he]; exact .null 0
      · rw [he]; exact .bool 0 int hi1
      · rw [he]; exact .int 0 int h1 h2
      · exact absurd hk3 (by decide)
      · exact absurd hk3 (by decide)
      · exact absurd hk3 (by decide)
    refine COK.seq (vcC_ok _ _ _ _ _ ?_)
    conv => whnf
    refine ⟨fun q => absurd (of_decide_eq_true q) hk3, fun _ => ?_⟩
    conv => whnf
    by_cases hk4 : kind = 3
    · subst hk4
      obtain ⟨rfl, h6, he, rfl⟩ : int = 0 ∧ text.length ≤ 6 ∧ items.map Val.t = [] ∧ keys = [] := by
        rcases hw.inv with ⟨h, _⟩ | ⟨h, _⟩ | ⟨h, _⟩ | ⟨_, h1, h2, h3, h4⟩ | ⟨_, _, h, _⟩ | ⟨_, _, h, _⟩
        · exact absurd h (by decide)
        · exact absurd h (by decide)
        · exact absurd h (by decide)
        · exact ⟨h1, h2, h3, h4⟩
        · exact absurd h (by decide)
        · exact absurd h (by decide)
      refine vcC_ok _ _ _ _ _ ?_
      conv => whnf
      refine ⟨fun _ => ?_, (by intro q; cases q)⟩
      conv => whnf
      refine OOK.call [0] rfl rfl rfl (by kernel_rfl) rfl (f_hquote g hB h hh text h6) (by decide) rfl ?_
      rintro v_ g1 m_ hg1 ⟨x, h1, rfl, hq, hxl, hh1, rfl⟩
      conv => whnf
      refine .mk ⟨_, [0], _, rfl, by decide, rfl, ⟨rfl, trivial⟩, x, h1, rfl, Lo.pr (.inr (.inr (.inr (.inr ⟨text, by omega, by rw [he], hq⟩)))) d, by omega, hh1, rfl⟩
    obtain ⟨d', rfl, hkd, rfl, rfl, hmap, hk40, hl4, hwi⟩ : ∃ d', d = d' + 1 ∧ (kind = 4 ∨ kind = 5) ∧ int = 0 ∧ text = [] ∧ (kind = 5 → keys.length = items.length ∧ Asc keys ∧ ∀ k ∈ keys, k.length ≤ 6) ∧ (kind = 4 → keys = []) ∧ items.length ≤ 4 ∧ ∀ x ∈ items, WF d' x.t := by
      rcases hw.inv with ⟨h, _⟩ | ⟨h, _⟩ | ⟨h, _⟩ | ⟨h, _⟩ | ⟨d', rfl, rfl, rfl, rfl, rfl, hl, hw⟩ | ⟨d', rfl, rfl, rfl, rfl, hk, hl, hs, h6, hw⟩
      · omega
      · omega
      · omega
      · omega
      · exact ⟨d', rfl, .inl rfl, rfl, rfl, (fun h => by cases h), (fun _ => rfl), by simpa using hl, fun x hx => hw _ (List.mem_map_of_mem hx)⟩
      · exact ⟨d', rfl, .inr rfl, rfl, rfl, (fun _ => ⟨by simpa using hk, hs, h6⟩), (fun h => absurd h (by decide)), by simpa using hl, fun x hx => hw _ (List.mem_map_of_mem hx)⟩
    obtain ⟨its, hits⟩ : ∃ its, its = items.map Val.t := ⟨_, rfl⟩
    have hil : its.length = items.length := by rw [hits, List.length_map]
    rw [← hits]
    have hbd : lbd (d' + 1) = 4 * lbd d' + 161 := rfl
    have hbd2 : lbd d' ≤ 100000 := by
      have : ∀ e, e ≤ 4 → lbd e ≤ 100000 := by decide
      exact this d' (by omega)
    refine COK.seq (vcC_ok _ _ _ _ _ ?_)
    conv => whnf
    refine ⟨fun q => absurd (eq_of_beq q) hk4, fun _ => ?_⟩
    conv => whnf
    refine COK.seq (vcC_ok _ _ _ _ _ ?_)
    conv => whnf
    refine COK.dummy 0 ?_
    refine COK.seq (COK.cut (α := Lz) (fun y => [(0, .own 0 0), (3, .own 1 0), (5, .val (.slice y.A y.ps.length y.c))]) (fun y => [y.h.slot hB, ⟨b1, .cells (Val.mk kind 0 [] items iA ic keys kA kc).cells 28 (0, 0)⟩, y.s]) (fun y g => y.h.ok g ∧ OwnAt 9 1 encK y.ps y.s y.A y.c ∧ PartsOk d' kind its keys items.length y.ps) ?_ ?_)
    · refine vcC_ok _ _ _ _ _ ?_
      conv => whnf
      refine COK.loop (α := Lz) (fun y => [(0, .own 0 0), (3, .own 1 0), (5, .val (.slice y.A y.ps.length y.c)), (23, .val (.slice iA items.length ic)), (24, .val (.int .i64 items.length)), (25, .val (.int .i64 y.i))]) (fun y => [y.h.slot hB, ⟨b1, .cells (Val.mk kind 0 [] items iA ic keys kA kc).cells 28 (0, 0)⟩, y.s]) (fun y g => y.h.ok g ∧ y.i ≤ items.length ∧ OwnAt 9 1 encK y.ps y.s y.A y.c ∧ PartsOk d' kind its keys y.i y.ps) (fun y => items.length - y.i) ⟨h, 0, [], ⟨0, .dead⟩, none, 0⟩ [0, 1, 2] (Sub.of (by decide) rfl ⟨rfl, rfl, rfl, rfl, rfl, rfl, trivial⟩) ⟨hh, Nat.zero_le _, .nil _ rfl, rfl, (fun p hp => by cases hp), ?_⟩ ?_
      · rcases hkd with rfl | rfl
        · exact .inl ⟨rfl, [], by simp, (fun q hq => by cases hq), rfl⟩
        · exact .inr ⟨rfl, [], by simp, (fun q hq => by cases hq), rfl⟩
      rintro ⟨h1, i, ps, so, A, c⟩ g1 hg1 ⟨hh1, hil1, hO, hP⟩
      simp only at hh1 hil1 hO hP
      dsimp only
      have hpl := hP.1
      by_cases hlt : i < items.length
      · obtain ⟨x, hx⟩ : ∃ x, items[i]? = some x := ⟨_, List.getElem?_eq_getElem hlt⟩
        have hmem := List.mem_of_getElem? hx
        have hT := fun g2 (hg2 : g1.le g2) h2 hh2 => ih x hmem d' g2 hB h2 hh2 ((hit x hmem).mono (hg1.trans hg2)) (hwi x hmem) (by omega) (ht.mono (hg1.trans hg2))
        obtain ⟨a, rfl, hra⟩ := (hi.mono hg1).at_ Val.len hx
        have hxt : its[i]? = some x.t := by rw [hits, List.getElem?_map, hx]; rfl
        obtain ⟨xk, xi, xt, xl, xA, xc, xs, xB, xd⟩ := x
        refine COK.seq (vcC_ok _ _ _ _ _ ?_)
        conv => whnf
        refine COK.seq (vcC_ok _ _ _ _ _ ?_)
        conv => whnf
        refine ⟨fun _ => ?_, fun q => absurd (of_decide_eq_false q) (by omega)⟩
        conv => whnf
        refine COK.seq (COK.block ?_)
        refine COK.seq (vcC_ok _ _ _ _ _ ?_)
        conv => whnf
        refine ⟨⟨by omega, by omega⟩, ?_⟩
        conv => whnf
        refine OOK.yn (YN.loads rfl rfl rfl hra ?_)
        conv => whnf
        intro b7
        conv => whnf
        refine COK.seq (COK.draw [1, 3] (by kernel_rfl) (by kernel_rfl) ?_)
        conv => whnf
        refine OOK.call [0] rfl rfl rfl (by kernel_rfl) rfl (f_blank g1 hB h1 hh1) (by decide) rfl ?_
        rintro v_ g2 m_ hg2 ⟨ba, h2, rfl, hba, hbal, hh2, rfl⟩
        conv => whnf
        refine ⟨⟨rfl, rfl, rfl, rfl, trivial⟩, ?_⟩
        conv => whnf
        refine OOK.call [0] rfl rfl rfl (by kernel_rfl) rfl (hT g2 hg2 h2 hh2) (by decide) rfl ?_
        rintro v_ g3 m_ hg3 ⟨x, h3, rfl, hx3, hxl, hh3, rfl⟩
        conv => whnf
        refine ⟨⟨rfl, rfl, rfl, rfl, trivial⟩, ?_⟩
        conv => whnf
        rw [str_app]
        refine ⟨by rw [str_size, str_size]; omega, ?_⟩
        conv => whnf
        refine OOK.call [0] rfl rfl rfl (by kernel_rfl) rfl (f_blank g3 hB h3 hh3) (by decide) rfl ?_
        rintro v_ g4 m_ hg4 ⟨bd, h4, rfl, hbd4, hbdl, hh4, rfl⟩
        conv => whnf
        refine ⟨⟨rfl, rfl, rfl, rfl, trivial⟩, ?_⟩
        conv => whnf
        rw [str_app]
        refine ⟨by rw [str_size, str_size, List.length_append]; omega, ?_⟩
        conv => whnf
        have hg14 := hg2.trans (hg3.trans hg4)
        obtain ⟨X, hX⟩ : ∃ X, X = (Val.mk xk xi xt xl xA xc xs xB xd).t := ⟨_, rfl⟩
        rw [← hX] at hxt hx3
        obtain ⟨w, hw'⟩ : ∃ w, w = ba ++ x ++ bd := ⟨_, rfl⟩
        have hwl : w.length = ba.length + x.length + bd.length := by rw [hw', List.length_append, List.length_append]
        rw [← hw']
        refine COK.seq (COK.cut (α := Hd × List UInt8) (fun y => [(0, .own 0 0), (3, .own 1 0), (5, .val (.slice A ps.length c)), (8, .val (.string (str y.2))), (23, .val (.slice (some a) items.length ic)), (24, .val (.int .i64 items.length)), (25, .val (.int .i64 i))])
          (fun y => [y.1.slot hB, ⟨b1, .cells (Val.mk kind 0 [] items (some a) ic keys kA kc).cells 28 (0, 0)⟩, so])
          (fun y g' => y.1.ok g' ∧ y.2.length ≤ lbd d' + 39 ∧ (kind = 4 → LPart (Lo d') (X, y.2)) ∧ (kind = 5 → ∃ ky, keys[i]? = some ky ∧ MPart (Lo d') ((ky, X), y.2))) ?_ ?_)
        · refine COK.seq (vcC_ok _ _ _ _ _ ?_)
          conv => whnf
          refine vcC_ok _ _ _ _ _ ?_
          conv => whnf
          rcases hkd with rfl | rfl
          · refine ⟨(by intro q; cases q), fun _ => ?_⟩
            conv => whnf
            exact ⟨(h4, w), [0, 1, 2], Sub.of (by decide) rfl ⟨rfl, rfl, rfl, rfl, rfl, rfl, rfl, trivial⟩, hh4, by show w.length ≤ _; omega, (fun _ => ⟨ba, x, bd, hba, hbd4, hx3, hw'⟩), fun h => absurd h (by decide)⟩
          · refine ⟨fun _ => ?_, (by intro q; cases q)⟩
            conv => whnf
            obtain ⟨hkl, hasc, h6⟩ := hmap rfl
            obtain ⟨ky, hkk⟩ : ∃ ky, keys[i]? = some ky := ⟨_, List.getElem?_eq_getElem (by omega)⟩
            have hk6 := h6 ky (List.mem_of_getElem? hkk)
            obtain ⟨ka, rfl, hrk⟩ := (hk.mono (hg1.trans hg14)).at_ encK_len hkk
            refine COK.draw [1] (by kernel_rfl) (by kernel_rfl) ?_
            conv => whnf
            refine ⟨⟨by omega, by omega⟩, ?_⟩
            conv => whnf
            refine YN.load rfl rfl rfl (v := .string (str ky)) (Reads.at0 hrk) ?_
            conv => whnf
            refine OOK.call [0] rfl rfl rfl (by kernel_rfl) rfl (f_blank g4 hB h4 hh4) (by decide) rfl ?_
            rintro v_ g5 m_ hg5 ⟨b5, h5, rfl, hb5, hb5l, hh5, rfl⟩
            conv => whnf
            refine ⟨⟨rfl, rfl, rfl, rfl, trivial⟩, ?_⟩
            conv => whnf
            refine OOK.call [0] rfl rfl rfl (by kernel_rfl) rfl (f_hquote g5 hB h5 hh5 ky hk6) (by decide) rfl ?_
            rintro v_ g6 m_ hg6 ⟨q6, h6', rfl, hq6, hq6l, hh6, rfl⟩
            conv => whnf
            refine ⟨⟨rfl, rfl, rfl, rfl, trivial⟩, ?_⟩
            conv => whnf
            rw [str_app]
            refine ⟨by rw [str_size, str_size]; omega, ?_⟩
            conv => whnf
            refine OOK.call [0] rfl rfl rfl (by kernel_rfl) rfl (f_blank g6 hB h6' hh6) (by decide) rfl ?_
            rintro v_ g7 m_ hg7 ⟨b7', h7, rfl, hb7, hb7l, hh7, rfl⟩
            conv => whnf
            refine ⟨⟨rfl, rfl, rfl, rfl, trivial⟩, ?_⟩
            conv => whnf
            rw [str_app]
            refine ⟨by rw [str_size, str_size, List.length_append]; omega, ?_⟩
            conv => whnf
            rw [show (⟨#[58]⟩ : ByteArray) = str [58] from rfl, str_app]
            refine ⟨by rw [str_size, str_size, List.length_append, List.length_append]; show _ + 1 ≤ _; omega, ?_⟩
            conv => whnf
            rw [str_app]
            refine ⟨by rw [str_size, str_size]; simp only [List.length_append, List.length_cons, List.length_nil]; omega, ?_⟩
            conv => whnf
            exact ⟨(h7, b5 ++ q6 ++ b7' ++ [58] ++ w), [0, 1, 2], Sub.of (by decide) rfl ⟨rfl, rfl, rfl, rfl, rfl, rfl, rfl, trivial⟩, hh7, by show (b5 ++ q6 ++ b7' ++ [58] ++ w).length ≤ _; simp only [List.length_append, List.length_cons, List.length_nil]; omega, (fun h => absurd h (by decide)), fun _ => ⟨ky, hkk, b5, q6, b7', ba, x, bd, hb5, hb7, hba, hbd4, by show ky.length ≤ 4096; omega, hq6, hx3, by show _ ++ w = _; rw [hw']⟩⟩
        rintro ⟨h5, p⟩ g5 hg5 ⟨hh5, hpl5, hp4, hp5⟩
        simp only at hh5 hpl5 hp4 hp5
        dsimp only
        have hidx : ∀ r : Int, 0 ≤ r → r < ((ps.length + 1 : Nat) : Int) → ∃ kk : Nat, IntKind.i64.wrap (IntKind.i64.wrap (r * IntKind.i64.wrap (kind - 4)) + IntKind.i64.wrap ((ps.length : Int) * IntKind.i64.wrap (5 - kind))) = (kk : Int) ∧ kk ≤ ps.length ∧ (kind = 4 → kk = ps.length) := by
          intro r r0 r1
          rcases hkd with rfl | rfl
          · refine ⟨ps.length, ?_, Nat.le_refl _, fun _ => rfl⟩
            rw [show IntKind.i64.wrap (4 - 4) = 0 from by decide, show IntKind.i64.wrap (5 - 4) = 1 from by decide, Int.mul_zero, Int.mul_one, show IntKind.i64.wrap 0 = 0 from by decide, Int.zero_add]
            have e : IntKind.i64.wrap (ps.length : Int) = ps.length := i64_in (by omega) (by omega)
            rw [e, e]
          · refine ⟨r.toNat, ?_, by omega, fun h => absurd h (by decide)⟩
            rw [show IntKind.i64.wrap (5 - 4) = 1 from by decide, show IntKind.i64.wrap (5 - 5) = 0 from by decide, Int.mul_zero, Int.mul_one, show IntKind.i64.wrap 0 = 0 from by decide, Int.add_zero]
            have e : IntKind.i64.wrap r = r := i64_in (by omega) (by omega)
            rw [e, e]
            omega
        have hPn : ∀ kk, kk ≤ ps.length → (kind = 4 → kk = ps.length) → PartsOk d' kind its keys (i + 1) (insAt ps kk p) := by
          intro kk h1 h2
          rcases hkd with rfl | rfl
          · exact hP.list hxt (h2 rfl) (hp4 rfl) hpl5
          · obtain ⟨ky, hky, hm⟩ := hp5 rfl
            exact hP.map hxt hky h1 hm hpl5
        have e1 : IntKind.i64.wrap ((ps.length : Int) + 1) = ((ps.length + 1 : Nat) : Int) := i64_in (by omega) (by omega)
        refine COK.draw [1] (by kernel_rfl) (by kernel_rfl) ?_
        conv => whnf
        refine OAnd.mk ?_ ?_
        · conv => whnf
          rw [e1]
          refine OOK.call [0] rfl rfl rfl (by kernel_rfl) rfl (hand_n g5 hB h5 ((ps.length + 1 : Nat) : Int) hh5 (by omega) (by omega)) (by decide) rfl ?_
          rintro v_ g6 m_ hg6 ⟨r, h6, rfl, r0, r1, hnh6, hh6, rfl⟩
          conv => whnf
          refine ⟨⟨rfl, rfl, rfl, trivial⟩, ?_⟩
          conv => whnf
          intro vb
          conv => whnf
          refine ⟨⟨rfl, rfl, rfl, trivial⟩, ?_⟩
          conv => whnf
          obtain ⟨kk, hkk, hkl, hk4'⟩ := hidx r r0 r1
          rw [hkk]
          cases hO with
          | nil b0 h0 =>
            subst h0
            obtain rfl : kk = 0 := Nat.le_zero.1 hkl
            refine OOK.call [3] rfl rfl rfl (by kernel_rfl) rfl (f_insO0 g6 none vb p) (by decide) rfl ?_
            rintro v_ g7 m_ hg7 ⟨b', c', rest', s0, rfl, hle, hlc, rfl⟩
            conv => whnf
            refine ⟨⟨rfl, rfl, rfl, trivial⟩, ?_⟩
            conv => whnf
            refine vcC_ok _ _ _ _ _ ?_
            conv => whnf
            exact ⟨⟨h6, i + 1, [p], ⟨b', .cells ([p].flatMap encK ++ rest') 9 (0, 0)⟩, some ⟨b', 0, none⟩, c'⟩, [0, 1, 4], Sub.of (by decide) rfl ⟨rfl, rfl, rfl, rfl, rfl, int_eq (i64_in (by omega) (by omega)), trivial⟩, ⟨hh6.mono hg7, hlt, .own b' c' rest' hlc hle, hPn 0 hkl hk4'⟩, by show items.length - (i + 1) < items.length - i; omega⟩
          | own b0 c0 rest h1' h2' =>
            refine OOK.call [2, 3] rfl rfl rfl (by kernel_rfl) rfl (f_insO g6 b0 vb c ps rest kk p hkl (by omega) h1' h2') (by decide) rfl ?_
            rintro v_ g7 m_ hg7 ⟨b', c', rest', rfl, hle, hlc, hm7⟩
            conv => whnf
            have hil2 := insAt_len ps kk p hkl
            rcases hm7 with ⟨s0, s1, rfl⟩ | ⟨rfl, s1, rfl⟩
            · refine ⟨⟨rfl, rfl, rfl, trivial⟩, ?_⟩
              conv => whnf
              refine vcC_ok _ _ _ _ _ ?_
              conv => whnf
              exact ⟨⟨h6, i + 1, insAt ps kk p, ⟨b', .cells ((insAt ps kk p).flatMap encK ++ rest') 9 (0, 0)⟩, some ⟨b', 0, none⟩, c'⟩, [0, 1, 4], Sub.of (by decide) rfl ⟨rfl, rfl, by show Value.slice _ _ _ = Value.slice _ _ _; rw [hil2], rfl, rfl, int_eq (i64_in (by omega) (by omega)), trivial⟩, ⟨hh6.mono hg7, hlt, .own b' c' rest' hlc (by rw [hil2]; exact hle), hPn kk hkl hk4'⟩, by show items.length - (i + 1) < items.length - i; omega⟩
            · refine ⟨⟨rfl, rfl, rfl, trivial⟩, ?_⟩
              conv => whnf
              refine vcC_ok _ _ _ _ _ ?_
              conv => whnf
              exact ⟨⟨h6, i + 1, insAt ps kk p, ⟨b', .cells ((insAt ps kk p).flatMap encK ++ rest') 9 (0, 0)⟩, some ⟨b', 0, none⟩, c'⟩, [0, 1, 2], Sub.of (by decide) rfl ⟨rfl, rfl, by show Value.slice _ _ _ = Value.slice _ _ _; rw [hil2], rfl, rfl, int_eq (i64_in (by omega) (by omega)), trivial⟩, ⟨hh6.mono hg7, hlt, .own b' c' rest' hlc (by rw [hil2]; exact hle), hPn kk hkl hk4'⟩, by show items.length - (i + 1) < items.length - i; omega⟩
        · conv => whnf
          intro vb
          conv => whnf
          refine ⟨⟨rfl, rfl, rfl, trivial⟩, ?_⟩
          conv => whnf
          rw [e1]
          refine OOK.call [0] rfl rfl rfl (by kernel_rfl) rfl (hand_n g5 hB h5 ((ps.length + 1 : Nat) : Int) hh5 (by omega) (by omega)) (by decide) rfl ?_
          rintro v_ g6 m_ hg6 ⟨r, h6, rfl, r0, r1, hnh6, hh6, rfl⟩
          conv => whnf
          refine ⟨⟨rfl, rfl, rfl, trivial⟩, ?_⟩
          conv => whnf
          obtain ⟨kk, hkk, hkl, hk4'⟩ := hidx r r0 r1
          rw [hkk]
          cases hO with
          | nil b0 h0 =>
            subst h0
            obtain rfl : kk = 0 := Nat.le_zero.1 hkl
            refine OOK.call [3] rfl rfl rfl (by kernel_rfl) rfl (f_insO0 g6 none vb p) (by decide) rfl ?_
            rintro v_ g7 m_ hg7 ⟨b', c', rest', s0, rfl, hle, hlc, rfl⟩
            conv => whnf
            refine ⟨⟨rfl, rfl, rfl, trivial⟩, ?_⟩
            conv => whnf
            refine vcC_ok _ _ _ _ _ ?_
            conv => whnf
            exact ⟨⟨h6, i + 1, [p], ⟨b', .cells ([p].flatMap encK ++ rest') 9 (0, 0)⟩, some ⟨b', 0, none⟩, c'⟩, [0, 1, 4], Sub.of (by decide) rfl ⟨rfl, rfl, rfl, rfl, rfl, int_eq (i64_in (by omega) (by omega)), trivial⟩, ⟨hh6.mono hg7, hlt, .own b' c' rest' hlc hle, hPn 0 hkl hk4'⟩, by show items.length - (i + 1) < items.length - i; omega⟩
          | own b0 c0 rest h1' h2' =>
            refine OOK.call [2, 3] rfl rfl rfl (by kernel_rfl) rfl (f_insO g6 b0 vb c ps rest kk p hkl (by omega) h1' h2') (by decide) rfl ?_
            rintro v_ g7 m_ hg7 ⟨b', c', rest', rfl, hle, hlc, hm7⟩
            conv => whnf
            have hil2 := insAt_len ps kk p hkl
            rcases hm7 with ⟨s0, s1, rfl⟩ | ⟨rfl, s1, rfl⟩
            · refine ⟨⟨rfl, rfl, rfl, trivial⟩, ?_⟩
              conv => whnf
              refine vcC_ok _ _ _ _ _ ?_
              conv => whnf
              exact ⟨⟨h6, i + 1, insAt ps kk p, ⟨b', .cells ((insAt ps kk p).flatMap encK ++ rest') 9 (0, 0)⟩, some ⟨b', 0, none⟩, c'⟩, [0, 1, 4], Sub.of (by decide) rfl ⟨rfl, rfl, by show Value.slice _ _ _ = Value.slice _ _ _; rw [hil2], rfl, rfl, int_eq (i64_in (by omega) (by omega)), trivial⟩, ⟨hh6.mono hg7, hlt, .own b' c' rest' hlc (by rw [hil2]; exact hle), hPn kk hkl hk4'⟩, by show items.length - (i + 1) < items.length - i; omega⟩
            · refine ⟨⟨rfl, rfl, rfl, trivial⟩, ?_⟩
              conv => whnf
              refine vcC_ok _ _ _ _ _ ?_
              conv => whnf
              exact ⟨⟨h6, i + 1, insAt ps kk p, ⟨b', .cells ((insAt ps kk p).flatMap encK ++ rest') 9 (0, 0)⟩, some ⟨b', 0, none⟩, c'⟩, [0, 1, 2], Sub.of (by decide) rfl ⟨rfl, rfl, by show Value.slice _ _ _ = Value.slice _ _ _; rw [hil2], rfl, rfl, int_eq (i64_in (by omega) (by omega)), trivial⟩, ⟨hh6.mono hg7, hlt, .own b' c' rest' hlc (by rw [hil2]; exact hle), hPn kk hkl hk4'⟩, by show items.length - (i + 1) < items.length - i; omega⟩
      · refine vcC_ok _ _ _ _ _ ?_
        conv => whnf
        refine ⟨fun q => absurd (of_decide_eq_true q) (by omega), fun _ => ?_⟩
        conv => whnf
        have hid : i = items.length := by omega
        subst hid
        exact ⟨⟨h1, 0, ps, so, A, c⟩, [0, 1, 2], Sub.of (by decide) rfl ⟨rfl, rfl, rfl, trivial⟩, hh1, hO, hP⟩
    rintro ⟨h1, i, ps, so, A, c⟩ g1 hg1 ⟨hh1, hO, hP⟩
    simp only at hh1 hO hP
    dsimp only
    have hpl := hP.1
    have hjl := parts_len hP hl4
    refine COK.rowF 2 hO rfl fun g2 hg2 hr => ?_
    have hcc := hO.le
    refine vcC_ok _ _ _ _ _ ?_
    conv => whnf
    refine OOK.call [] rfl rfl rfl (by kernel_rfl) rfl (f_join g2 A c ps [44] hr (by omega) hcc (by decide) (by decide) (by omega)) (by decide) rfl ?_
    rintro v_ g3 m_ hg3 ⟨rfl, rfl⟩
    conv => whnf
    have hh3 := hh1.mono (hg2.trans hg3)
    refine ⟨fun q => ?_, fun q => ?_⟩
    · have hi0 : items.length = 0 := by have := eq_of_beq q; omega
      have hin : items = [] := List.length_eq_zero_iff.1 hi0
      have hits0 : its = [] := by rw [hits, hin]; rfl
      conv => whnf
      refine OOK.call [0] rfl rfl rfl (by kernel_rfl) rfl (f_blank g3 hB h1 hh3) (by decide) rfl ?_
      rintro v_ g4 m_ hg4 ⟨ba, h4, rfl, hba, hbal, hh4, rfl⟩
      conv => whnf
      refine ⟨fun q5 => ?_, fun q5 => ?_⟩
      · obtain rfl : kind = 5 := by simpa using q5
        have hk0 : keys = [] := List.length_eq_zero_iff.1 (by rw [(hmap rfl).1, hi0])
        conv => whnf
        rw [show (⟨#[123]⟩ : ByteArray) = str [123] from rfl, str_app]
        refine ⟨by rw [str_size, str_size]; show 1 + _ ≤ _; omega, ?_⟩
        conv => whnf
        rw [show (⟨#[125]⟩ : ByteArray) = str [125] from rfl, str_app]
        refine ⟨by rw [str_size, str_size]; simp only [List.length_append, List.length_cons, List.length_nil]; omega, ?_⟩
        conv => whnf
        exact .mk ⟨_, [0], _, rfl, by decide, rfl, ⟨rfl, trivial⟩, _, h4, rfl, .inr (.inl ⟨ba, hba, .inr ⟨by rw [hits0, hk0], rfl⟩⟩), by simp only [List.length_append, List.length_cons, List.length_nil]; omega, hh4, rfl⟩
      · obtain rfl : kind = 4 := hkd.resolve_right (by simpa using q5)
        conv => whnf
        rw [show (⟨#[91]⟩ : ByteArray) = str [91] from rfl, str_app]
        refine ⟨by rw [str_size, str_size]; show 1 + _ ≤ _; omega, ?_⟩
        conv => whnf
        rw [show (⟨#[93]⟩ : ByteArray) = str [93] from rfl, str_app]
        refine ⟨by rw [str_size, str_size]; simp only [List.length_append, List.length_cons, List.length_nil]; omega, ?_⟩
        conv => whnf
        exact .mk ⟨_, [0], _, rfl, by decide, rfl, ⟨rfl, trivial⟩, _, h4, rfl, .inr (.inl ⟨ba, hba, .inl ⟨by rw [hits0, hk40 rfl], rfl⟩⟩), by simp only [List.length_append, List.length_cons, List.length_nil]; omega, hh4, rfl⟩
    · have hne : its ≠ [] := fun e => by
        have : items.length = 0 := by rw [← hil, e]; rfl
        have h0 : ps.length = 0 := by omega
        rw [h0] at q
        exact absurd q (by decide)
      rw [← hil] at hP
      have hlo2 := hP.lo (fun h => ⟨by rw [hil]; exact (hmap h).1, (hmap h).2.1⟩) hk40 hne
      conv => whnf
      refine ⟨fun q5 => ?_, fun q5 => ?_⟩
      · obtain rfl : kind = 5 := by simpa using q5
        conv => whnf
        rw [show (⟨#[123]⟩ : ByteArray) = str [123] from rfl, str_app]
        refine ⟨by rw [str_size, str_size]; show 1 + _ ≤ _; omega, ?_⟩
        conv => whnf
        rw [show (⟨#[125]⟩ : ByteArray) = str [125] from rfl, str_app]
        refine ⟨by rw [str_size, str_size]; simp only [List.length_append, List.length_cons, List.length_nil]; omega, ?_⟩
        conv => whnf
        exact .mk ⟨_, [0], _, rfl, by decide, rfl, ⟨rfl, trivial⟩, _, h1, rfl, hlo2, by simp only [List.length_append, List.length_cons, List.length_nil]; omega, hh3, rfl⟩
      · obtain rfl : kind = 4 := hkd.resolve_right (by simpa using q5)
        conv => whnf
        rw [show (⟨#[91]⟩ : ByteArray) = str [91] from rfl, str_app]
        refine ⟨by rw [str_size, str_size]; show 1 + _ ≤ _; omega, ?_⟩
        conv => whnf
        rw [show (⟨#[93]⟩ : ByteArray) = str [93] from rfl, str_app]
        refine ⟨by rw [str_size, str_size]; simp only [List.length_append, List.length_cons, List.length_nil]; omega, ?_⟩
        conv => whnf
        exact .mk ⟨_, [0], _, rfl, by decide, rfl, ⟨rfl, trivial⟩, _, h1, rfl, hlo2, by simp only [List.length_append, List.length_cons, List.length_nil]; omega, hh3, rfl⟩
end Go.Proofs.YthkfnmmbjoadbaaGreatDoor
/- WholeTexts: Parse's deferred recover. -/
set_option linter.unusedVariables false
set_option linter.unusedSimpArgs false
set_option maxRecDepth 100000
namespace Go.SX
open Go
theorem wp_par {P : Program} {n : Cfg} {c : Code} {e : Env} {m : Mem} {g : GH} {K : KK} (h : COK P n c e m g K) {a : Act} {w : World} (ha : Agr a n e m) (hw : Has w g m) {Q : Exit → Act → World → Prop}
    (hQ : ∀ x a' w' e' m' g', Agr a' n e' m' → Has w' g' m' → Fr w m g w' m' g' → K x e' m' g' → Q x a' w') (hX : ∀ ch a' w' e' m' g', Agr a' n e' m' → Has w' g' m' → Fr w m g w' m' g' → n.X ch → Q (.panic ch) a' w') : c.wp P Q a w := by
  refine wp_mono (h.ok a w ha hw) ?_
  rintro x a' w' ⟨e', m', g', h1, h2, h3, h4 | ⟨ch, rfl, h4⟩⟩
  · exact hQ _ _ _ _ _ _ h1 h2 h3 h4
  · exact hX _ _ _ _ _ _ h1 h2 h3 h4
/-- What lies in the blocks of J is known meanwhile. -/
def shutG (w : World) (g : GH) (J : Mem) : GH := fun b => if b ∈ J.lives then w.heap[b]? else g b
def openG (g : GH) (J : Mem) : GH := fun b => if b ∈ J.lives then none else g b
theorem Has.shut {w : World} {g : GH} {J : Mem} (h : Has w g J) : Has w (shutG w g J) [] := by
  refine ⟨fun b o hb => ?_, (fun s hs => by cases hs), (fun i j s t hi => by simp at hi), fun b hb => by simp [Mem.lives] at hb⟩
  unfold shutG at hb
  split at hb
  · exact hb
  · exact h.sub b o hb
theorem shut_le {w : World} {g : GH} {J : Mem} (h : Has w g J) : g.le (shutG w g J) := fun b o hb => by
  unfold shutG
  split
  · rename_i hm
    rw [h.apart b hm] at hb
    cases hb
  · exact hb
theorem Has.thaw {w w' : World} {g g' : GH} {J m : Mem} (h : Has w g J) (h' : Has w' g' m) (f : Fr w [] (shutG w g J) w' m g') : Has w' (openG g' J) J ∧ Fr w J g w' J (openG g' J) := by
  refine ⟨⟨fun b o hb => ?_, fun s hs o ho => ?_, h.inj, fun b hb => ?_⟩, ⟨f.os, f.tape, f.output, f.size, fun b o hb => ?_, fun b hb hm => f.keep b hb (by simp [Mem.lives]), fun b hb hm => ?_, fun b _ hm => hm⟩⟩
  · unfold openG at hb
    split at hb
    · cases hb
    · exact h'.sub b o hb
  · have hl : s.b ∈ J.lives := Mem.mem_lives.2 ⟨s, hs, rfl, o, ho⟩
    refine h'.sub _ _ (f.le _ _ ?_)
    unfold shutG
    rw [if_pos hl]
    exact h.own s hs o ho
  · unfold openG
    rw [if_pos hb]
  · have hn : b ∉ J.lives := fun hm => by rw [h.apart b hm] at hb; cases hb
    unfold openG
    rw [if_neg hn]
    exact f.le _ _ (shut_le h b o hb)
  · unfold openG
    rw [if_neg hm, f.gnew b hb (by simp [Mem.lives])]
    unfold shutG
    rw [if_neg hm]
theorem Has.outer {w w' : World} {g g' : GH} {J m m' : Mem} (h : Has w g (J ++ m)) (h' : Has w' g' m') (f : Fr w m g w' m' g') : Has w' g' (J ++ m') ∧ Fr w (J ++ m) g w' (J ++ m') g' := by
  have hJ : ∀ s ∈ J, s.live = true → s.b < w.heap.size ∧ s.b ∉ m.lives ∧ s.b ∉ m'.lives := by
    intro s hs hl
    have hlv : s.b ∈ Mem.lives (J ++ m) := Mem.mem_lives.2 ⟨s, List.mem_append_left _ hs, rfl, live_iff.1 hl⟩
    have h1 := h.lt hlv
    have h2 : s.b ∉ m.lives := by
      intro hm
      obtain ⟨t, ht, hb, o, ho⟩ := Mem.mem_lives.1 hm
      obtain ⟨i, hi⟩ := List.mem_iff_getElem?.1 hs
      obtain ⟨j, hj⟩ := List.mem_iff_getElem?.1 ht
      have hi' := (List.getElem?_eq_some_iff.1 hi).1
      have := h.inj i (J.length + j) s t (by rw [List.getElem?_append_left hi']; exact hi) (by rw [List.getElem?_append_right (by omega)]; simpa using hj) hl (live_iff.2 ⟨o, ho⟩) hb.symm
      omega
    exact ⟨h1, h2, f.mnew s.b h1 h2⟩
  refine ⟨⟨h'.sub, fun s hs o ho => ?_, fun i j s t hi hj hs ht hb => ?_, fun b hb => ?_⟩, ⟨f.os, f.tape, f.output, f.size, f.le, fun b hb hm => ?_, fun b hb hm => ?_, fun b hb hm => ?_⟩⟩
  · rcases List.mem_append.1 hs with hs | hs
    · obtain ⟨h1, h2, h3⟩ := hJ s hs (live_iff.2 ⟨o, ho⟩)
      rw [f.keep _ h1 h2]
      exact h.own s (List.mem_append_left _ hs) o ho
    · exact h'.own s hs o ho
  · rcases Nat.lt_or_ge i J.length with hi' | hi' <;> rcases Nat.lt_or_ge j J.length with hj' | hj'
    · rw [List.getElem?_append_left hi'] at hi
      rw [List.getElem?_append_left hj'] at hj
      exact h.inj i j s t (by rw [List.getElem?_append_left hi']; exact hi) (by rw [List.getElem?_append_left hj']; exact hj) hs ht hb
    · rw [List.getElem?_append_left hi'] at hi
      rw [List.getElem?_append_right hj'] at hj
      have := (hJ s (List.mem_of_getElem? hi) hs).2.2
      exact absurd (Mem.mem_lives.2 ⟨t, List.mem_of_getElem? hj, hb.symm, live_iff.1 ht⟩) this
    · rw [List.getElem?_append_right hi'] at hi
      rw [List.getElem?_append_left hj'] at hj
      have := (hJ t (List.mem_of_getElem? hj) ht).2.2
      exact absurd (Mem.mem_lives.2 ⟨s, List.mem_of_getElem? hi, hb, live_iff.1 hs⟩) this
    · rw [List.getElem?_append_right hi'] at hi
      rw [List.getElem?_append_right hj'] at hj
      have := h'.inj _ _ s t hi hj hs ht hb
      omega
  · obtain ⟨s, hs, rfl, o, ho⟩ := Mem.mem_lives.1 hb
    rcases List.mem_append.1 hs with hs | hs
    · obtain ⟨h1, h2, h3⟩ := hJ s hs (live_iff.2 ⟨o, ho⟩)
      rw [f.gnew _ h1 h2]
      exact h.apart _ (Mem.mem_lives.2 ⟨s, List.mem_append_left _ hs, rfl, o, ho⟩)
    · exact h'.apart _ (Mem.mem_lives.2 ⟨s, hs, rfl, o, ho⟩)
  · exact f.keep b hb fun hx => hm (by rw [Mem.lives_append]; exact List.mem_append_right _ hx)
  · exact f.gnew b hb fun hx => hm (by rw [Mem.lives_append]; exact List.mem_append_right _ hx)
  · rw [Mem.lives_append] at hm ⊢
    intro hx
    rcases List.mem_append.1 hx with hx | hx
    · exact hm (List.mem_append_left _ hx)
    · exact f.mnew b hb (fun hy => hm (List.mem_append_right _ hy)) hx
theorem Env.get_mem : ∀ {e : Env} {t : Nat} {x : SV}, e.get t = some x → (t, x) ∈ e
  | [], t, x, h => by simp [Env.get] at h
  | (k, v) :: r, t, x, h => by
    rw [Env.get_cons] at h
    split at h
    · rename_i hk
      subst hk
      cases h
      exact List.mem_cons_self
    · exact List.mem_cons_of_mem _ (Env.get_mem h)
theorem Agr.of {a : Act} {n : Cfg} {e : Env} {m : Mem} (hd : a.defers = n.ds) (hs : a.tmps.size = n.n) (h : ∀ p ∈ e, ∃ v, p.2.den m = some v ∧ a.tmps[p.1]? = some v) : Agr a n e m := ⟨hd, hs, fun t x hx => h _ (Env.get_mem hx)⟩
theorem OOK.assertOk {P : Program} {n : Cfg} {o : Oper} {e : Env} {m : Mem} {g : GH} {K : Env → Mem → GH → Prop} {x : Operand} {t asT : TypeId} {v : Value} {fs : Array Field} (hop : o.op = .typeAssert x t asT true) (hx : e.va m x = some (.iface asT v)) (hu : P.underlying asT = some (.struct fs))
    (h : putK n o.dst (.val (.tuple #[v, .bool true])) e fun e => K e m g) : OOK P n o e m g K := by
  refine OOK.val rfl (fun a w ha hw => ?_) h
  have h1 : (Instr.typeAssert (.iface asT v) t asT true).run P w = .ok (.tuple #[v, .bool true]) w := by
    simp [Instr.typeAssert, run_underlying hu]
  simp only [execOp, hop, ha.va hx, Sem.run_bind, h1, Result.andThen_ok, Sem.run_pure]
/-- A call is put off: the closure, then the defer. -/
theorem wp_defer {P : Program} {n : Nat} {X X' : List PanicEntry → Prop} {e : Env} {m : Mem} {i : Nat} {o1 o2 : Oper} {d : Nat} {f : FuncId} {xs : Array Operand} {vs : Array Value}
    (h1 : o1.op = .makeFunc (.func f) #[] xs) (hd1 : o1.dst = some d) (g1 : o1.guard = none) (h2 : o2.op = .defer ⟨.value (.tmp d), #[], #[]⟩) (hd2 : o2.dst = none) (g2 : o2.guard = none) (hlt : d < n) {a : Act} {w : World} (ha : Agr a ⟨n, [], X⟩ e m)
    (hv : xs.map a.eval = vs) {Q : Exit → Act → World → Prop} (hQ : ∀ a', Agr a' ⟨n, [{ target := .fn (.func f) vs, args := #[] }], X'⟩ ((d, .val (.func (.func f) #[] vs)) :: e) m → Q .normal a' w) : (Code.region i #[o1, o2] false).wp P Q a w := by
  have hsz : a.tmps.size = n := ha.size
  have hmf : ∀ (fn : Fn) (first cap : Array Value) (w : World), (Instr.makeFunc fn first cap).run P w = .ok (.func fn first cap) w := fun _ _ _ _ => rfl
  have e1 : (execOp a.eval o1).run P w = .ok (.value (.func (.func f) #[] vs)) w := by
    simp [execOp, h1, hv, hmf]
  have hev : (a.put (some d) (.func (.func f) #[] vs)).eval (.tmp d) = .func (.func f) #[] vs := by
    simp [Act.eval, Act.put, hsz, hlt]
  have e2 : (execOp (a.put (some d) (.func (.func f) #[] vs)).eval o2).run P w = .ok (.defer { target := .fn (.func f) vs, args := #[] }) w := by
    simp [execOp, h2, resolve, hev, Deferred.ofValue]
  refine wp_region_list ?_
  show wpList P _ Q [o1, o2] a w
  unfold wpList
  rw [if_pos (by simp [Region.wanted, g1])]
  left
  unfold Oper.wp
  rw [e1, Oper.upon_value, hd1]
  unfold wpList
  rw [if_pos (by simp [Region.wanted, g2])]
  left
  unfold Oper.wp
  rw [e2, Oper.upon_defer, hd2]
  refine hQ _ ⟨?_, ?_, fun t x hx => ?_⟩
  · have := ha.defers
    simp only [Act.put] at this ⊢
    rw [this]
  · simp [Act.put, hsz]
  · have h3 := ha.put (some d) (fun t ht => by cases ht; exact hlt) (x := .val (.func (.func f) #[] vs)) (v := .func (.func f) #[] vs) rfl
    exact h3.at_ t x hx
end Go.SX
namespace Go.Proofs.YthkfnmmbjoadbaaGreatDoor
open Go Go.SX

theorem catch_idle (a b c : Value) (w : World) :
    CallsD Tryz.prog 33 #[a, b, c] .returning w fun e u' w' => e = .returned (.tuple #[]) ∧ u' = .returning ∧ w' = w := by
  refine callsD_of_wpS Tryz.func33 rfl fun c₀ cs hu => ?_
  apply wpS_seq
  apply wpS_region
  simp [wpOpsS, go_sem, recoverD, hu, Tryz.ntmps33, Exit.thenS]
  apply wpS_seq
  apply wpS_region
  simp [wpOpsS, go_sem, Exit.thenS]
  refine wpS_cond (t := false) (by simp [Act.eval, Array.replicate]) ?_
  simp only [Bool.false_eq_true, if_false]
  refine wpS_of_wp (wp_skip ?_)
  cases c₀
  simp_all [bodyPostS, results, show Tryz.f33.results = #[] from rfl]
def zV : List Value := [.int .i64 0, .int .i64 0, .string ⟨#[]⟩, .slice none 0 0, .slice none 0 0]
theorem catch_fault (b2 b3 b4 : Nat) (x y : Int) (older : List PanicEntry) (w : World) (g : GH) (hw : Has w g [⟨b2, .cells zV 28 (0, 0)⟩, ⟨b3, .cells [.int .i64 0] 3 (0, 0)⟩, ⟨b4, .cells [.int .i64 0] 32 (0, 0)⟩]) :
    CallsD Tryz.prog 33 #[.pointer (some ⟨b2, 0, none⟩), .pointer (some ⟨b3, 0, none⟩), .pointer (some ⟨b4, 0, none⟩)] (.panicking ({ v := .iface 62 (.agg #[.int .i64 x, .int .i64 y]), recovered := false } :: older)) w fun e u' w' =>
      e = .returned (.tuple #[]) ∧ u' = .panicking ({ v := .iface 62 (.agg #[.int .i64 x, .int .i64 y]), recovered := true } :: older) ∧
      ∃ g', Has w' g' [⟨b2, .cells zV 28 (0, 0)⟩, ⟨b3, .cells [.int .i64 x] 3 (0, 0)⟩, ⟨b4, .cells [.int .i64 y] 32 (0, 0)⟩] ∧ Fr w [⟨b2, .cells zV 28 (0, 0)⟩, ⟨b3, .cells [.int .i64 0] 3 (0, 0)⟩, ⟨b4, .cells [.int .i64 0] 32 (0, 0)⟩] g w' [⟨b2, .cells zV 28 (0, 0)⟩, ⟨b3, .cells [.int .i64 x] 3 (0, 0)⟩, ⟨b4, .cells [.int .i64 y] 32 (0, 0)⟩] g' := by
  refine callsD_of_wpS Tryz.func33 rfl fun c₀ cs hu => ?_
  apply wpS_seq
  apply wpS_region
  simp [wpOpsS, go_sem, recoverD, hu, Tryz.ntmps33, Exit.thenS]
  refine wpS_of_wp (wp_par (n := ⟨22, [], fun _ => False⟩) (e := [(3, .val (.iface 62 (.agg #[.int .i64 x, .int .i64 y]))), (0, .own 0 0), (1, .own 1 0), (2, .own 2 0)]) (g := g) (m := [⟨b2, .cells zV 28 (0, 0)⟩, ⟨b3, .cells [.int .i64 0] 3 (0, 0)⟩, ⟨b4, .cells [.int .i64 0] 32 (0, 0)⟩])
    (K := fun x' e m g' => x' = .normal ∧ ∃ is, SX.Sub e m [] [⟨b2, .cells zV 28 (0, 0)⟩, ⟨b3, .cells [.int .i64 x] 3 (0, 0)⟩, ⟨b4, .cells [.int .i64 y] 32 (0, 0)⟩] is) ?_ ?_ hw ?_ ?_)
  · refine vcC_ok _ _ _ _ _ ?_
    conv => whnf
    refine ⟨fun _ => ?_, (by intro q; cases q)⟩
    conv => whnf
    refine OOK.assertOk rfl rfl rfl ?_
    conv => whnf
    intro b5
    conv => whnf
    refine ⟨(by intro q; cases q), fun _ => ?_⟩
    conv => whnf
    refine COK.draw [3] (by kernel_rfl) (by kernel_rfl) ?_
    conv => whnf
    refine ⟨⟨rfl, rfl, rfl, rfl, trivial⟩, ?_⟩
    conv => whnf
    refine ⟨⟨rfl, rfl, rfl, rfl, trivial⟩, ?_⟩
    conv => whnf
    refine ⟨⟨rfl, rfl, rfl, rfl, trivial⟩, ?_⟩
    conv => whnf
    exact ⟨rfl, [0, 1, 2], Sub.of (by decide) rfl trivial⟩
  · refine Agr.of rfl (by simp) fun p hp => ?_
    simp only [List.mem_cons, List.not_mem_nil, or_false] at hp
    rcases hp with rfl | rfl | rfl | rfl <;> exact ⟨_, rfl, by simp [Array.getElem?_append]⟩
  · rintro x' a' w' e' m' g' h1 h2 h3 ⟨rfl, is, hs⟩
    exact ⟨h1.defers, _, rfl, .tuple #[], by simp [results, show Tryz.f33.results = #[] from rfl], rfl, rfl, g', h2.sub_ hs, h3.trans (Fr.sub hs)⟩
  · intro ch a' w' e' m' g' _ _ _ h
    exact h.elim
def pSlots (b2 b3 b4 : Nat) (c : List Value) (x y : Int) : Mem := [⟨b2, .cells c 28 (0, 0)⟩, ⟨b3, .cells [.int .i64 x] 3 (0, 0)⟩, ⟨b4, .cells [.int .i64 y] 32 (0, 0)⟩]
theorem f_parse_ok (g : GH) (s : List UInt8) (hs : s.length ≤ 100000) (t : T) (q cnt : Nat) (hv : valP 16 s 0 0 = .ok (t, q, cnt)) (hend : blanksP s q = s.length) : Tri Tryz.prog 8 [.string (str s)] g [] fun v g' m' => m' = [] ∧ ∃ V : Val, V.t = t ∧ V.Ok g' ∧ v = .tuple #[V.val, .int .i64 0, .int .i64 0] := by
  intro w hw
  refine calls_of_wp_defers (fn := Tryz.f8) Tryz.func8 rfl ?_
  refine wp_seq (wp_par (n := ⟨28, [], fun _ => False⟩) (e := [(0, .val (.string (str s)))]) (m := []) (g := g) (K := fun x e m g' => x = .normal ∧ g' = g ∧ ∃ b2 b3 b4 is, SX.Sub e m [(0, .val (.string (str s))), (2, .own 0 0), (3, .own 1 0), (4, .own 2 0)] (pSlots b2 b3 b4 zV 0 0) is) ?_ ?_ hw ?_ ?_)
  · refine vcC_ok _ _ _ _ _ ?_
    conv => whnf
    intro b2
    conv => whnf
    intro b3
    conv => whnf
    intro b4
    conv => whnf
    exact ⟨rfl, rfl, b2, b3, b4, [0, 1, 2], Sub.of (by decide) rfl ⟨rfl, rfl, rfl, rfl, trivial⟩⟩
  · refine Agr.of rfl (by simp) fun p hp => ?_
    rw [List.mem_singleton.1 hp]
    exact ⟨_, rfl, by simp [Array.getElem?_append]⟩
  rotate_left
  · intro ch a' w' e' m' g' _ _ _ h
    exact h.elim
  rintro x a1 w1 e1 m1 g1 h1 h2 h3 ⟨rfl, rfl, b2, b3, b4, is, hsub⟩
  have ha1 := h1.sub hsub
  have hw1 := h2.sub_ hsub
  have hf1 := h3.trans (Fr.sub (g := g1) (w := w1) hsub)
  show Code.wp _ _ _ a1 w1
  have hvs : (#[Operand.tmp 2, .tmp 3, .tmp 4] : Array Operand).map a1.eval = #[.pointer (some ⟨b2, 0, none⟩), .pointer (some ⟨b3, 0, none⟩), .pointer (some ⟨b4, 0, none⟩)] := by
    simp [ha1.va (x := .tmp 2) (v := .pointer (some ⟨b2, 0, none⟩)) rfl, ha1.va (x := .tmp 3) (v := .pointer (some ⟨b3, 0, none⟩)) rfl, ha1.va (x := .tmp 4) (v := .pointer (some ⟨b4, 0, none⟩)) rfl]
  refine wp_seq (wp_defer (X' := fun _ => False) rfl rfl rfl rfl rfl rfl (by decide) ha1 hvs fun a2 ha2 => ?_)
  refine wp_par (K := fun x e m g' => x = .ret ∧ ∃ (V : Val) (is : List Nat), SX.Sub e m [(2, .own 0 0), (3, .own 1 0), (4, .own 2 0)] (pSlots b2 b3 b4 V.cells 0 0) is ∧ V.t = t ∧ V.Ok g') ?_ ha2 hw1 ?_ ?_
  · refine vcC_ok _ _ _ _ _ ?_
    conv => whnf
    intro b9
    conv => whnf
    refine OOK.callE [3] rfl rfl rfl (by kernel_rfl) rfl (f_valP b9 s hs 16 1 g1 (by omega) (by decide) g1 0 0 (GH.le.refl _) (Nat.zero_le _) (by omega) (by rw [hv]; intro h; cases h)) (by decide) rfl (fun ch h => by rw [hv] at h; cases h.1) ?_
    rintro v_ g4 m_ hg4 ⟨V, x, hx, hxt, rfl, hVo, rfl⟩
    rw [hv] at hx
    cases hx
    obtain ⟨Vk, Vi, Vt, Vl, VA, Vc, Vks, VB, Vd⟩ := V
    conv => whnf
    refine OOK.call [3] rfl rfl rfl (by kernel_rfl) rfl (f_blanks g4 b9 s q cnt hs) (by decide) rfl ?_
    rintro v_ g5 m_ hg5 ⟨rfl, rfl⟩
    conv => whnf
    rw [hend, str_size]
    refine ⟨fun q => absurd (of_decide_eq_true q) (by omega), fun _ => ?_⟩
    conv => whnf
    exact ⟨rfl, Val.mk Vk Vi Vt Vl VA Vc Vks VB Vd, [0, 1, 2], Sub.of (by decide) rfl ⟨rfl, rfl, rfl, trivial⟩, hxt.symm, hVo.mono hg5⟩
  · rintro x a3 w3 e3 m3 g3 k1 k2 k3 ⟨rfl, V, is, hs3, hVt, hVo⟩
    have ha3 := k1.sub hs3
    have hw3 := k2.sub_ hs3
    have hf3 := hf1.trans (k3.trans (Fr.sub (g := g3) (w := w3) hs3))
    show Leaves _ _ _ _ a3.defers .returning w3
    rw [k1.defers]
    refine leaves_cons (f := 33) (args := #[.pointer (some ⟨b2, 0, none⟩), .pointer (some ⟨b3, 0, none⟩), .pointer (some ⟨b4, 0, none⟩)]) (by simp) (by simp [go_sem]) ((catch_idle _ _ _ w3).mono ?_)
    rintro e u' w' ⟨rfl, rfl, rfl⟩
    show Leaves _ _ _ _ [] (settle .returning) w'
    have hr := run_results (fn := Tryz.f8) (P := Tryz.prog) ha3 hw3 (vs := [V.val, .int .i64 0, .int .i64 0]) (by obtain ⟨k, i, t, l, A, c, ks, B, d⟩ := V; rfl)
    have hnil : SX.Sub ([] : Env) (pSlots b2 b3 b4 V.cells 0 0) [] [] [] := ⟨List.nodup_nil, rfl, fun t x hx => by simp [Env.get] at hx⟩
    exact ⟨_, hr, _, g3, [], rfl, ⟨rfl, V, hVt, hVo, rfl⟩, Mem.ext.refl _, hw3.sub_ hnil, hf3.trans (Fr.sub hnil)⟩
  · intro ch a' w' e' m' g' _ _ _ h
    exact h.elim
theorem f_parse_short (g : GH) (s : List UInt8) (hs : s.length ≤ 100000) (hv : valP 16 s 0 0 = .short) : Tri Tryz.prog 8 [.string (str s)] g [] fun v g' m' => m' = [] ∧ v = .tuple #[(Val.mk 0 0 [] [] none 0 [] none 0).val, .int .i64 (s.length : Int), .int .i64 4] := by
  intro w hw
  refine calls_of_wp_defers (fn := Tryz.f8) Tryz.func8 rfl ?_
  refine wp_seq (wp_par (n := ⟨28, [], fun _ => False⟩) (e := [(0, .val (.string (str s)))]) (m := []) (g := g) (K := fun x e m g' => x = .normal ∧ g' = g ∧ ∃ b2 b3 b4 is, SX.Sub e m [(0, .val (.string (str s))), (2, .own 0 0), (3, .own 1 0), (4, .own 2 0)] (pSlots b2 b3 b4 zV 0 0) is) ?_ ?_ hw ?_ ?_)
  · refine vcC_ok _ _ _ _ _ ?_
    conv => whnf
    intro b2
    conv => whnf
    intro b3
    conv => whnf
    intro b4
    conv => whnf
    exact ⟨rfl, rfl, b2, b3, b4, [0, 1, 2], Sub.of (by decide) rfl ⟨rfl, rfl, rfl, rfl, trivial⟩⟩
  · refine Agr.of rfl (by simp) fun p hp => ?_
    rw [List.mem_singleton.1 hp]
    exact ⟨_, rfl, by simp [Array.getElem?_append]⟩
  rotate_left
  · intro ch a' w' e' m' g' _ _ _ h
    exact h.elim
  rintro x a1 w1 e1 m1 g1 h1 h2 h3 ⟨rfl, rfl, b2, b3, b4, is, hsub⟩
  have ha1 := h1.sub hsub
  have hw1 := h2.sub_ hsub
  have hf1 := h3.trans (Fr.sub (g := g1) (w := w1) hsub)
  show Code.wp _ _ _ a1 w1
  have hvs : (#[Operand.tmp 2, .tmp 3, .tmp 4] : Array Operand).map a1.eval = #[.pointer (some ⟨b2, 0, none⟩), .pointer (some ⟨b3, 0, none⟩), .pointer (some ⟨b4, 0, none⟩)] := by
    simp [ha1.va (x := .tmp 2) (v := .pointer (some ⟨b2, 0, none⟩)) rfl, ha1.va (x := .tmp 3) (v := .pointer (some ⟨b3, 0, none⟩)) rfl, ha1.va (x := .tmp 4) (v := .pointer (some ⟨b4, 0, none⟩)) rfl]
  refine wp_seq (wp_defer (X' := fun _ => False) rfl rfl rfl rfl rfl rfl (by decide) ha1 hvs fun a2 ha2 => ?_)
  refine wp_seq (wp_par (K := fun x e m g' => x = .normal ∧ g' = g1 ∧ ∃ b9 is, SX.Sub e m [(5, .own 3 0), (2, .own 0 0), (3, .own 1 0), (4, .own 2 0)] (pSlots b2 b3 b4 zV 0 0 ++ [prS b9 s 0 0]) is) ?_ ha2 hw1 ?_ ?_)
  · refine vcC_ok _ _ _ _ _ ?_
    conv => whnf
    intro b9
    conv => whnf
    exact ⟨rfl, rfl, b9, [0, 1, 2, 3], Sub.of (by decide) rfl ⟨rfl, rfl, rfl, rfl, trivial⟩⟩
  rotate_left
  · intro ch a' w' e' m' g' _ _ _ h
    exact h.elim
  rintro x a3 w3 e3 m3 g3 k1 k2 k3 ⟨rfl, rfl, b9, is3, hsub3⟩
  have ha3 := k1.sub hsub3
  have hw3 := k2.sub_ hsub3
  have hf3 := hf1.trans (k3.trans (Fr.sub (g := g3) (w := w3) hsub3))
  show Code.wp _ _ _ a3 w3
  refine wp_seq (wp_region_list ?_)
  show wpList _ _ _ [_, _, _] a3 w3
  unfold wpList
  rw [if_pos (by simp [Region.wanted])]
  left
  refine OOK.ok (K := fun e' m' g' => e' = [(10, .own 3 0), (5, .own 3 0), (2, .own 0 0), (3, .own 1 0), (4, .own 2 0)] ∧ m' = pSlots b2 b3 b4 zV 0 0 ++ [prS b9 s 0 0] ∧ g' = g3) (vcOp_ok ?_) a3 w3 ha3 hw3 _ _ ?_ (fun ch a' w' g' _ _ _ h => h.elim)
  · conv => whnf
    exact ⟨rfl, rfl, rfl⟩
  rintro a4 w4 e4 m4 g4 l1 l2 l3 ⟨rfl, rfl, rfl⟩
  unfold wpList
  rw [if_pos (by simp [Region.wanted])]
  left
  unfold Oper.wp
  rw [run_call (f := 34) (first := #[]) (cap := #[]) (vs := [.pointer (some ⟨b9, 0, none⟩), .int .i64 1]) (args := [.pointer (some ⟨b9, 0, none⟩), .int .i64 1]) rfl rfl (by
    show [a4.eval (.tmp 10), _] = _
    rw [l1.va (x := .tmp 10) (v := .pointer (some ⟨b9, 0, none⟩)) rfl]; rfl) (by kernel_rfl) rfl w4]
  refine (f_valP b9 s hs 16 1 g4 (by omega) (by decide) g4 0 0 (GH.le.refl _) (Nat.zero_le _) (by omega) (by rw [hv]; intro h; cases h) w4 (pick_ow l2 (is := [3]) (by decide) rfl)).mono ?_
  rintro en w5 (⟨v, g5, m5, rfl, ⟨V, x, hx, _⟩, _⟩ | ⟨ch, g5, rfl, ⟨_, rfl⟩, hw5, hf5⟩)
  · rw [hv] at hx
    cases hx
  obtain ⟨hw6, hf6⟩ := Has.outer (J := pSlots b2 b3 b4 zV 0 0) l2 hw5 hf5
  rw [List.append_nil] at hw6 hf6
  show Leaves _ _ _ _ a4.defers (.panicking (fch s)) w5
  rw [l1.defers]
  refine leaves_cons (f := 33) (args := #[.pointer (some ⟨b2, 0, none⟩), .pointer (some ⟨b3, 0, none⟩), .pointer (some ⟨b4, 0, none⟩)]) (by simp) (by simp [go_sem]) ((catch_fault b2 b3 b4 _ _ [] w5 _ hw6).mono ?_)
  rintro e u' w' ⟨rfl, rfl, g7, hw7, hf7⟩
  show Leaves _ _ _ _ [] (settle _) w'
  have ha7 : Agr a4 ⟨28, [{ target := .fn (.func 33) #[.pointer (some ⟨b2, 0, none⟩), .pointer (some ⟨b3, 0, none⟩), .pointer (some ⟨b4, 0, none⟩)], args := #[] }], fun _ => False⟩ [(2, .own 0 0), (3, .own 1 0), (4, .own 2 0)] (pSlots b2 b3 b4 zV s.length 4) := by
    refine Agr.of l1.defers l1.size fun p hp => ?_
    simp only [List.mem_cons, List.not_mem_nil, or_false] at hp
    rcases hp with rfl | rfl | rfl
    · exact l1.at_ 2 (.own 0 0) rfl
    · exact l1.at_ 3 (.own 1 0) rfl
    · exact l1.at_ 4 (.own 2 0) rfl
  have hr := run_results (fn := Tryz.f8) (P := Tryz.prog) ha7 hw7 (vs := [(Val.mk 0 0 [] [] none 0 [] none 0).val, .int .i64 s.length, .int .i64 4]) rfl
  have hnil : SX.Sub ([] : Env) (pSlots b2 b3 b4 zV s.length 4) [] [] [] := ⟨List.nodup_nil, rfl, fun t x hx => by simp [Env.get] at hx⟩
  exact ⟨_, hr, _, g7, [], rfl, ⟨rfl, rfl⟩, Mem.ext.refl _, hw7.sub_ hnil, ((hf3.trans l3).trans (hf6.trans hf7)).trans (Fr.sub hnil)⟩
end Go.Proofs.YthkfnmmbjoadbaaGreatDoor
