/- WholeTimers: slices.Insert of one item into a row of one's own. -/
import Derived.Test.YtnkfpapegknlfaaTOrd
import Derived.Test.YtnkfpapegknlfaaSxCopy
import Derived.Test.YtnkfpapegknlfaaProg
set_option linter.unusedVariables false
set_option linter.unusedSimpArgs false
set_option maxRecDepth 100000
namespace Go.Proofs.Ytnkfpapegknlfaa
open Go Go.SX

def insAt (l : List Item) (k : Nat) (x : Item) : List Item := l.take k ++ x :: l.drop k
theorem f_insert (g : GH) (b vb c : Nat) (l : List Item) (rest : List Value) (k : Nat) (x : Item) (hk : k ≤ l.length) (hl : l.length ≤ 100000) (hc : (l.flatMap Item.enc ++ rest).length = c * 2) (hlc : l.length ≤ c) :
    Tri Try.prog 19 [.slice (some ⟨b, 0, none⟩) l.length c, .int .i64 (k : Int), .slice (some ⟨vb, 0, none⟩) 1 1] g [⟨b, .cells (l.flatMap Item.enc ++ rest) 29 (0, 0)⟩, ⟨vb, .cells x.enc 29 (0, 0)⟩]
      fun v g' m' => ∃ b' c' s0 s1, v = .slice (some ⟨b', 0, none⟩) (l.length + 1) c' ∧ Row g' Item.enc (some ⟨b', 0, none⟩) (insAt l k x) ∧ l.length + 1 ≤ c' ∧ m' = [s0, s1] := by
  have hlen := flat_len Item.len l
  refine Tri.vc [.val (.slice (some ⟨b, 0, none⟩) l.length c), .val (.int .i64 (k : Int)), .val (.slice (some ⟨vb, 0, none⟩) 1 1)] Try.func19 rfl Try.ntmps19 rfl rfl ?_
  have hrl : rest.length = c * 2 - l.length * 2 := by rw [List.length_append, hlen] at hc; omega
  have ht : ((l.take k).flatMap Item.enc).length = k * 2 := by rw [flat_len Item.len, List.length_take]; congr 1; omega
  have hd : ((l.drop k).flatMap Item.enc).length = (l.length - k) * 2 := by rw [flat_len Item.len, List.length_drop]
  have hsp : l.flatMap Item.enc = (l.take k).flatMap Item.enc ++ (l.drop k).flatMap Item.enc := by rw [← List.flatMap_append, List.take_append_drop]
  have hins : ∀ r, (l.take k).flatMap Item.enc ++ x.enc ++ ((l.drop k).flatMap Item.enc ++ r) = (insAt l k x).flatMap Item.enc ++ r := fun r => by
    unfold insAt
    rw [List.flatMap_append, List.flatMap_cons]
    simp only [List.append_assoc]
  have h1x : ∀ v ∈ x.enc, v.oneCell' = true := Item.one x
  have h1l : ∀ v ∈ (l.drop k).flatMap Item.enc, v.oneCell' = true := fun v hv => by
    obtain ⟨y, _, hy⟩ := List.mem_flatMap.1 hv
    exact Item.one y v hy
  conv => whnf
  refine ⟨⟨by omega, by omega⟩, ?_⟩
  conv => whnf
  refine ⟨fun h1 => absurd h1 (by decide), fun _ => ?_⟩
  conv => whnf
  refine ⟨fun h1 => ?_, fun h1 => ?_⟩
  · have hk1 : k = l.length := by have := eq_of_beq h1; omega
    subst hk1
    conv => whnf
    refine OOK.appendOwn (sn := l.length) (sc := c) (k := 1) (old := l.flatMap Item.enc) (ys := x.enc) 0 rfl rfl rfl rfl (.inl ⟨_, rfl⟩) rfl (size := 2) (bytes := 16) rfl rfl rfl (by decide) rfl rfl (by rw [← hlen, List.take_left']; rfl) hlen hc rfl (Src.own (i := 1) (q := 0) rfl rfl (fun j v hj => by rw [Nat.zero_add]; exact hj)) h1x (by omega) ?_
    intro b' c' rest' hle hlc' _
    conv => whnf
    refine .freeze 2 rfl rfl fun g4 hg4 hb4 => ?_
    refine .mk ⟨_, [0, 1], _, rfl, by decide, rfl, ⟨rfl, rfl, trivial⟩, b', c', _, _, rfl, ?_, hle, rfl⟩
    refine row_of (rest := rest') (el := 29) ?_
    have hi := hins rest'
    rw [List.take_length, List.drop_length, List.flatMap_nil, List.nil_append] at hi
    rw [← hi]
    exact hb4
  · have hk1 : k < l.length := by
      have : ¬ ((k : Int) = (l.length : Int)) := by simpa using h1
      omega
    have hw1 : IntKind.i64.wrap ((l.length : Int) + ((1 : Nat) : Int)) = ((l.length + 1 : Nat) : Int) := i64_in (by omega) (by omega)
    have hw2 : IntKind.i64.wrap ((k : Int) + ((1 : Nat) : Int)) = ((k + 1 : Nat) : Int) := i64_in (by omega) (by omega)
    have hw3 : IntKind.i64.wrap (((l.length + 1 : Nat) : Int) - (k : Int)) = ((l.length + 1 - k : Nat) : Int) := by rw [i64_in (by omega) (by omega)]; omega
    conv => whnf
    refine ⟨fun h2 => ?_, fun h2 => ?_⟩
    · have hcc : c < l.length + 1 := by rw [hw1] at h2; have := of_decide_eq_true h2; omega
      conv => whnf
      refine ⟨⟨by omega, by omega⟩, ?_⟩
      conv => whnf
      rw [hw1, hw3]
      refine OOK.appendZ (A := some ⟨b, 0, none⟩) (sn := k) (sc := c) (N := l.length + 1 - k) (old := (l.take k).flatMap Item.enc) rfl (by show some (Value.slice _ _ _) = _; rw [if_neg (by omega)]; rfl) rfl rfl rfl rfl (size := 2) (bytes := 16) rfl rfl rfl (by decide) (by decide) rfl
        (Src.own (i := 0) (q := 0) rfl ht (fun j v hj => by rw [Nat.zero_add, hsp, List.append_assoc, List.getElem?_append_left (List.getElem?_eq_some_iff.1 hj).1]; exact hj)) ht (by omega) (by omega) (by omega) ?_
      intro b' c' zs rest' hle hzl hlc'
      have hkn : k + (l.length + 1 - k) = l.length + 1 := by omega
      rw [hkn] at hle ⊢
      conv => whnf
      refine ⟨⟨by omega, by omega⟩, ?_⟩
      conv => whnf
      refine OOK.copyOwn (b := b') (q := 0 + k * 2) (dn := l.length + 1 - k) (dc := c' - k) (k := 1) (ys := x.enc) (t' := 29) 2 rfl (by show some (Value.slice _ _ _) = _; rw [if_neg (by omega)]; rfl) rfl rfl rfl (size := 2) rfl rfl
        (SrcN.own (i := 1) (q := 0) rfl (by rw [show Nat.min 1 (l.length + 1 - k) = 1 from Nat.min_eq_left (by omega)]; rfl) (fun j v hj => by rw [Nat.zero_add]; exact hj)) h1x (by rw [List.length_append, List.length_append, ht, hzl, Nat.zero_add]; show k * 2 + 2 ≤ _; omega)
        (cs' := (l.take k).flatMap Item.enc ++ x.enc ++ (zs.drop 2 ++ rest')) (by
          rw [show (l.take k).flatMap Item.enc ++ zs ++ rest' = (l.take k).flatMap Item.enc ++ zs.take 2 ++ (zs.drop 2 ++ rest') by rw [List.append_assoc, List.append_assoc, ← List.append_assoc (zs.take 2), List.take_append_drop]]
          exact over (by rw [ht, Nat.zero_add]) (by rw [List.length_take, hzl]; show min 2 _ = 2; omega)) ?_
      conv => whnf
      refine COK.draw [] (by kernel_rfl) (by kernel_rfl) ?_
      conv => whnf
      rw [hw2]
      refine ⟨⟨by omega, by omega⟩, ?_⟩
      conv => whnf
      refine ⟨⟨by omega, by omega⟩, ?_⟩
      conv => whnf
      refine OOK.copyOwn (b := b') (q := 0 + (k + 1) * 2) (dn := l.length - k) (dc := c' - (k + 1)) (k := l.length - k) (ys := (l.drop k).flatMap Item.enc) (t' := 29) 2 rfl (by show some (Value.slice _ _ _) = _; rw [if_neg (by show ¬ (c' = k + 1); omega)]; show some (Value.slice _ (l.length + 1 - (k + 1)) _) = _; rw [show l.length + 1 - (k + 1) = l.length - k by omega]; rfl) rfl rfl rfl (size := 2) rfl rfl
        (by
          show SrcN _ _ _ (Value.slice (if c = k then some ⟨b, 0, none⟩ else some (addN ⟨b, 0, none⟩ (k * 2))) (l.length - k) (c - k)) _ _ _ _
          rw [if_neg (by omega)]
          exact SrcN.own (i := 0) (q := 0 + k * 2) rfl (by rw [hd]; show _ = min _ _ * 2; rw [Nat.min_self]) (fun j v hj => by
            rw [Nat.zero_add, ← ht, hsp, List.append_assoc, List.getElem?_append_right (by omega), Nat.add_sub_cancel_left, List.getElem?_append_left (List.getElem?_eq_some_iff.1 hj).1]; exact hj)) h1l
        (by simp only [List.length_append, List.length_drop, ht, hzl, hd, Item.len]; omega)
        (cs' := (l.take k).flatMap Item.enc ++ x.enc ++ (l.drop k).flatMap Item.enc ++ rest') (by
          rw [show (l.take k).flatMap Item.enc ++ x.enc ++ (zs.drop 2 ++ rest') = (l.take k).flatMap Item.enc ++ x.enc ++ zs.drop 2 ++ rest' by simp only [List.append_assoc]]
          exact over (by rw [List.length_append, ht, Item.len]; omega) (by rw [List.length_drop, hzl, hd]; omega)) ?_
      conv => whnf
      refine ⟨⟨rfl, rfl, rfl, trivial⟩, ?_⟩
      conv => whnf
      refine .freeze 2 rfl rfl fun g4 hg4 hb4 => ?_
      refine .mk ⟨_, [0, 1], _, rfl, by decide, rfl, ⟨rfl, rfl, trivial⟩, b', c', _, _, rfl, ?_, hle, rfl⟩
      refine row_of (rest := rest') (el := 29) ?_
      rw [← hins rest', ← List.append_assoc]
      exact hb4
    · have hcc : l.length + 1 ≤ c := by rw [hw1] at h2; have := of_decide_eq_false h2; omega
      have hc0 : ¬ (c = 0) := by omega
      conv => whnf
      rw [hw1]
      refine ⟨⟨by omega, by omega⟩, ?_⟩
      rw [if_neg hc0]
      conv => whnf
      rw [hw2]
      refine ⟨⟨by omega, by omega⟩, ?_⟩
      conv => whnf
      refine OOK.extern (v := .bool false) rfl rfl rfl (fun w hw => ?_) ?_
      · have hb0 := hw.own ⟨b, _⟩ (List.mem_cons_self ..) _ rfl
        have hb1 := hw.own ⟨vb, _⟩ (List.mem_cons_of_mem _ (List.mem_cons_self ..)) _ rfl
        have hne : vb ≠ b := fun h => by
          have := hw.inj 1 0 _ _ rfl rfl rfl rfl h
          omega
        refine (run_callFunc_extern rfl (by kernel_rfl) (by kernel_rfl) (by kernel_rfl) (e := Extern.SlicesOverlaps.overlaps #[27, 27] #[4]) (by kernel_rfl) _ w).trans ?_
        have hz : ∀ w, (Go.sizeOf 29).run Try.prog w = .ok 2 w := fun w => (run_size (P := Try.prog) (t := 29) rfl w).trans rfl
        have := Lib.run_overlaps_apart (P := Try.prog) w 27 4 29 rfl 2 hz ⟨vb, 0, none⟩ ⟨b, 0 + 0 * 2 + (k + 1) * 2, none⟩ 1 1 (l.length + 1 - (k + 1)) (c - (k + 1)) hne 29 29 x.enc.toArray.size (l.flatMap Item.enc ++ rest).toArray.size
          (by simp only [World.shape?]; rw [hb1]) (by simp only [World.shape?]; rw [hb0]) (by rw [List.size_toArray, hc]; omega) (by simp only [World.frozen?]; rw [hb1]; rfl) (by simp only [World.frozen?]; rw [hb1]; rfl)
        show ((Extern.SlicesOverlaps.overlaps #[27, 27] #[4] #[.slice (some ⟨vb, 0, none⟩) 1 1, .slice (if c = k + 1 then some ⟨b, 0 + 0 * 2, none⟩ else some ⟨b, 0 + 0 * 2 + (k + 1) * 2, none⟩) (l.length + 1 - (k + 1)) (c - (k + 1))]).run Try.prog w).andThen _ = _
        rw [if_neg (by omega), this]
        rfl
      conv => whnf
      refine ⟨fun _ => ?_, fun h3 => (by cases h3)⟩
      conv => whnf
      refine COK.draw [] (by kernel_rfl) (by kernel_rfl) ?_
      conv => whnf
      rw [hw2]
      refine ⟨⟨by omega, by show (k : Int) + 1 ≤ _; omega⟩, ?_⟩
      conv => whnf
      refine ⟨⟨by omega, by omega⟩, ?_⟩
      conv => whnf
      have hr2 : 2 ≤ rest.length := by omega
      have hspk : (l.drop k).flatMap Item.enc = l[k].enc ++ (l.drop (k + 1)).flatMap Item.enc := by
        rw [← List.getElem_cons_drop (h := hk1), List.flatMap_cons]
      have ht1 : ((l.take (k + 1)).flatMap Item.enc).length = (k + 1) * 2 := by rw [flat_len Item.len, List.length_take]; congr 1; omega
      have hd1 : ((l.drop (k + 1)).flatMap Item.enc).length = (l.length - (k + 1)) * 2 := by rw [flat_len Item.len, List.length_drop]
      have hsp1 : l.flatMap Item.enc = (l.take (k + 1)).flatMap Item.enc ++ (l.drop (k + 1)).flatMap Item.enc := by rw [← List.flatMap_append, List.take_append_drop]
      have htk : (l.take (k + 1)).flatMap Item.enc = (l.take k).flatMap Item.enc ++ l[k].enc := by
        rw [List.take_succ_eq_append_getElem hk1, List.flatMap_append]; simp
      refine OOK.copyOwn (b := b) (q := 0 + 0 * 2 + (k + 1) * 2) (dn := l.length - k) (dc := c - (k + 1)) (k := l.length + 1 - k) (ys := (l.drop k).flatMap Item.enc) (t' := 29) 0 rfl (by show some (Value.slice (if c = k + 1 then _ else _) (l.length + 1 - (k + 1)) _) = _; rw [if_neg (by omega), show l.length + 1 - (k + 1) = l.length - k by omega]; rfl) rfl rfl rfl (size := 2) rfl rfl
        (by
          show SrcN _ _ _ (Value.slice (if c = k then some ⟨b, 0 + 0 * 2, none⟩ else some (addN ⟨b, 0 + 0 * 2, none⟩ (k * 2))) (l.length + 1 - k) (c - k)) _ _ _ _
          rw [if_neg (by omega)]
          exact SrcN.own (i := 0) (q := 0 + 0 * 2 + k * 2) rfl (by rw [hd]; show _ = min _ _ * 2; rw [Nat.min_eq_right (by omega)]) (fun j v hj => by
            rw [show 0 + 0 * 2 + k * 2 = k * 2 by omega, ← ht, hsp, List.append_assoc, List.getElem?_append_right (by omega), Nat.add_sub_cancel_left, List.getElem?_append_left (List.getElem?_eq_some_iff.1 hj).1]; exact hj)) h1l
        (by simp only [List.length_append, hlen, hd]; omega)
        (cs' := (l.take (k + 1)).flatMap Item.enc ++ (l.drop k).flatMap Item.enc ++ rest.drop 2) (by
          rw [show l.flatMap Item.enc ++ rest = (l.take (k + 1)).flatMap Item.enc ++ ((l.drop (k + 1)).flatMap Item.enc ++ rest.take 2) ++ rest.drop 2 by rw [hsp1]; simp only [List.append_assoc, List.take_append_drop]]
          exact over (by rw [ht1]; omega) (by rw [List.length_append, hd1, hd, List.length_take]; omega)) ?_
      conv => whnf
      refine ⟨⟨rfl, rfl, trivial⟩, ?_⟩
      conv => whnf
      refine ⟨⟨by omega, by omega⟩, ?_⟩
      conv => whnf
      refine OOK.copyOwn (b := b) (q := 0 + 0 * 2 + k * 2) (dn := l.length + 1 - k) (dc := c - k) (k := 1) (ys := x.enc) (t' := 29) 0 rfl (by show some (Value.slice (if c = k then _ else _) (l.length + 1 - k) _) = _; rw [if_neg (by omega)]; rfl) rfl rfl rfl (size := 2) rfl rfl
        (SrcN.own (i := 1) (q := 0) rfl (by rw [show Nat.min 1 (l.length + 1 - k) = 1 from Nat.min_eq_left (by omega)]; rfl) (fun j v hj => by rw [Nat.zero_add]; exact hj)) h1x (by simp only [List.length_append, ht1, hd, Item.len]; omega)
        (cs' := (l.take k).flatMap Item.enc ++ x.enc ++ ((l.drop k).flatMap Item.enc ++ rest.drop 2)) (by
          rw [show (l.take (k + 1)).flatMap Item.enc ++ (l.drop k).flatMap Item.enc ++ rest.drop 2 = (l.take k).flatMap Item.enc ++ l[k].enc ++ ((l.drop k).flatMap Item.enc ++ rest.drop 2) by rw [htk]; simp only [List.append_assoc]]
          exact over (by rw [ht]; omega) rfl) ?_
      conv => whnf
      refine .freeze 0 rfl rfl fun g4 hg4 hb4 => ?_
      refine .mk ⟨_, [0, 1], _, rfl, by decide, rfl, ⟨rfl, rfl, trivial⟩, b, c, _, _, rfl, ?_, hcc, rfl⟩
      refine row_of (rest := rest.drop 2) (el := 29) ?_
      rw [← hins (rest.drop 2)]
      exact hb4
theorem f_insert0 (g : GH) (A : Option Addr) (vb : Nat) (x : Item) :
    Tri Try.prog 19 [.slice A 0 0, .int .i64 0, .slice (some ⟨vb, 0, none⟩) 1 1] g [⟨vb, .cells x.enc 29 (0, 0)⟩]
      fun v g' m' => ∃ b' c' s0, v = .slice (some ⟨b', 0, none⟩) 1 c' ∧ Row g' Item.enc (some ⟨b', 0, none⟩) [x] ∧ 1 ≤ c' ∧ m' = [s0] := by
  refine Tri.vc [.val (.slice A 0 0), .val (.int .i64 0), .val (.slice (some ⟨vb, 0, none⟩) 1 1)] Try.func19 rfl Try.ntmps19 rfl rfl ?_
  conv => whnf
  refine ⟨⟨Int.le_refl _, Int.le_refl _⟩, ?_⟩
  conv => whnf
  refine ⟨fun h1 => absurd h1 (by decide), fun _ => ?_⟩
  conv => whnf
  refine ⟨fun h1 => ?_, fun h1 => absurd h1 (by decide)⟩
  conv => whnf
  refine OOK.appendNew (old := []) (ys := x.enc) (k := 1) rfl rfl rfl rfl (.inl ⟨_, rfl⟩) rfl (size := 2) (bytes := 16) rfl rfl rfl (by decide) rfl Src.nil' rfl rfl (by decide) (Src.own (i := 0) (q := 0) rfl rfl (fun j v hj => by rw [Nat.zero_add]; exact hj)) (by decide) ?_
  intro b' c' rest' hle hlc
  conv => whnf
  refine .freeze 1 rfl rfl fun g4 hg4 hb4 => ?_
  refine .mk ⟨_, [0], _, rfl, by decide, rfl, ⟨rfl, trivial⟩, b', c', _, rfl, ?_, by omega, rfl⟩
  refine row_of (rest := rest') (el := 29) ?_
  simpa using hb4
end Go.Proofs.Ytnkfpapegknlfaa
