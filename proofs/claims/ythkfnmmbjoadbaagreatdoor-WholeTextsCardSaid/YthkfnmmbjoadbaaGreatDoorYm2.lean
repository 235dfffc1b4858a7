/- WholeTexts: slices.Clone, slices.Insert, slices.BinarySearch. -/
import Derived.Test.YthkfnmmbjoadbaaGreatDoorYm1
import Derived.Test.YthkfnmmbjoadbaaGreatDoorPxCopy
-- INST THM=f_insS;FUN=slices.Insert[[]string,string];TS=26;TT=9;ENC=encK;LEN=encK_len;ONE=encK_one;AL=(List UInt8);SZ=1;BY=16;CL=f_cloneS;CF=slices.Clone[[]string,string]
-- INST THM=f_insV;FUN=slices.Insert[[]workflow/api.Value,workflow/api.Value];TS=25;TT=28;ENC=Val.cells;LEN=Val.len;ONE=Val.one;AL=Val;SZ=5;BY=80;CL=f_cloneV;CF=slices.Clone[[]workflow/api.Value,workflow/api.Value]
set_option linter.unusedVariables false
set_option linter.unusedSimpArgs false
set_option maxRecDepth 100000
namespace Go.Proofs.YthkfnmmbjoadbaaGreatDoor
open Go Go.SX

def insAt {α : Type} (l : List α) (k : Nat) (x : α) : List α := l.take k ++ x :: l.drop k
theorem f_cloneS (g : GH) (A : Option Addr) (c : Nat) (l : List (List UInt8)) (hA : Row g encK A l) (hl : l.length ≤ 100000) :
    Tri Tryz.prog 57 [.slice A l.length c] g [] fun v g' m' => ∃ s A' c', OwnAt 9 1 encK l s A' c' ∧ v = .slice A' l.length c' ∧ m' = [s] := by
  have hlen := flat_len encK_len l
  refine Tri.cok [.val (.slice A l.length c)] Tryz.func57 rfl Tryz.ntmps57 rfl rfl ?_
  refine COK.dummy 0 ?_
  cases A with
  | none =>
    have : l = [] := by
      cases l with
      | nil => rfl
      | cons x r => obtain ⟨a, h, _⟩ := hA (by simp); cases h
    subst this
    refine vcC_ok _ _ _ _ _ ?_
    conv => whnf
    refine ⟨fun _ => ?_, fun q => by cases q⟩
    conv => whnf
    exact .mk ⟨_, [0], _, rfl, by decide, rfl, trivial, ⟨0, .dead⟩, none, 0, .nil _ rfl, rfl, rfl⟩
  | some a =>
    refine vcC_ok _ _ _ _ _ ?_
    conv => whnf
    refine ⟨(by intro q; cases q), fun _ => ?_⟩
    conv => whnf
    intro b
    conv => whnf
    by_cases h0 : l = []
    · subst h0
      refine OOK.appendNone rfl rfl rfl rfl (.inl ⟨_, rfl⟩) rfl (size := 1) (bytes := 16) rfl rfl (Src.nil') ?_
      conv => whnf
      exact .mk ⟨_, [1], _, rfl, by decide, rfl, trivial, _, some ⟨b, 0, none⟩, 0, .own b 0 [] rfl (Nat.le_refl _), rfl, rfl⟩
    · obtain ⟨a', ha, hr⟩ := hA h0
      obtain rfl := Option.some.inj ha
      have hpos : 0 < l.length := List.length_pos_iff.2 h0
      refine OOK.appendNew (old := []) (ys := l.flatMap encK) (k := l.length) rfl rfl rfl rfl (.inl ⟨_, rfl⟩) rfl (size := 1) (bytes := 16) rfl rfl rfl (by decide) rfl Src.nil' rfl hlen (by omega) (Src.reads hlen hr) (by omega) ?_
      intro b' c' rest hle hlc
      conv => whnf
      exact .mk ⟨_, [2], _, rfl, by decide, rfl, trivial, _, some ⟨b', 0, none⟩, c', .own b' c' rest (by simpa using hlc) (by omega), by rw [Nat.zero_add]; rfl, rfl⟩
theorem f_insS (g : GH) (b vb c : Nat) (l : List (List UInt8)) (rest : List Value) (k : Nat) (x : (List UInt8)) (hk : k ≤ l.length) (hl : l.length ≤ 100000) (hc : (l.flatMap encK ++ rest).length = c * 1) (hlc : l.length ≤ c) :
    Tri Tryz.prog 38 [.slice (some ⟨b, 0, none⟩) l.length c, .int .i64 (k : Int), .slice (some ⟨vb, 0, none⟩) 1 1] g [⟨b, .cells (l.flatMap encK ++ rest) 9 (0, 0)⟩, ⟨vb, .cells (encK x) 9 (0, 0)⟩]
      fun v g' m' => ∃ b' c' s0 s1, v = .slice (some ⟨b', 0, none⟩) (l.length + 1) c' ∧ Row g' encK (some ⟨b', 0, none⟩) (insAt l k x) ∧ l.length + 1 ≤ c' ∧ m' = [s0, s1] := by
  have hlen := flat_len encK_len l
  have hx1 : (encK x).length = 1 * 1 := by rw [encK_len]
  refine Tri.vc [.val (.slice (some ⟨b, 0, none⟩) l.length c), .val (.int .i64 (k : Int)), .val (.slice (some ⟨vb, 0, none⟩) 1 1)] Tryz.func38 rfl Tryz.ntmps38 rfl rfl ?_
  have hrl : rest.length = c * 1 - l.length * 1 := by rw [List.length_append, hlen] at hc; omega
  have ht : ((l.take k).flatMap encK).length = k * 1 := by rw [flat_len encK_len, List.length_take]; congr 1; omega
  have hd : ((l.drop k).flatMap encK).length = (l.length - k) * 1 := by rw [flat_len encK_len, List.length_drop]
  have hsp : l.flatMap encK = (l.take k).flatMap encK ++ (l.drop k).flatMap encK := by rw [← List.flatMap_append, List.take_append_drop]
  have hins : ∀ r, (l.take k).flatMap encK ++ (encK x) ++ ((l.drop k).flatMap encK ++ r) = (insAt l k x).flatMap encK ++ r := fun r => by
    unfold insAt
    rw [List.flatMap_append, List.flatMap_cons]
    simp only [List.append_assoc]
  have h1x : ∀ v ∈ (encK x), v.oneCell' = true := encK_one x
  have h1l : ∀ v ∈ (l.drop k).flatMap encK, v.oneCell' = true := fun v hv => by
    obtain ⟨y, _, hy⟩ := List.mem_flatMap.1 hv
    exact encK_one y v hy
  conv => whnf
  refine ⟨⟨by omega, by omega⟩, ?_⟩
  conv => whnf
  refine ⟨fun h1 => absurd h1 (by decide), fun _ => ?_⟩
  conv => whnf
  refine ⟨fun h1 => ?_, fun h1 => ?_⟩
  · have hk1 : k = l.length := by have := eq_of_beq h1; omega
    subst hk1
    conv => whnf
    refine OOK.appendOwn (sn := l.length) (sc := c) (k := 1) (old := l.flatMap encK) (ys := (encK x)) 0 rfl rfl rfl rfl (.inl ⟨_, rfl⟩) rfl (size := 1) (bytes := 16) rfl rfl rfl (by decide) rfl rfl (by rw [← hlen, List.take_left']; rfl) hlen hc hx1 (Src.own (i := 1) (q := 0) rfl hx1 (fun j v hj => by rw [Nat.zero_add]; exact hj)) h1x (by omega) ?_
    intro b' c' rest' hle hlc' _
    conv => whnf
    refine .freeze 2 rfl rfl fun g4 hg4 hb4 => ?_
    refine .mk ⟨_, [0, 1], _, rfl, by decide, rfl, ⟨rfl, rfl, trivial⟩, b', c', _, _, rfl, ?_, hle, rfl⟩
    refine row_of (rest := rest') (el := 9) ?_
    have hi := hins rest'
    rw [List.take_length, List.drop_length, List.flatMap_nil, List.nil_append] at hi
    rw [← hi]
    exact hb4
  · have hk1 : k < l.length := by
      have : ¬ ((k : Int) = (l.length : Int)) := by simpa using h1
      omega
    have hw1 : IntKind.i64.wrap ((l.length : Int) + ((1 : Nat) : Int)) = ((l.length + 1 : Nat) : Int) := i64_in (by omega) (by omega)
    have hw2 : IntKind.i64.wrap ((k : Int) + ((1 : Nat) : Int)) = ((k + 1 : Nat) : Int) := i64_in (by omega) (by omega)
    have hw3 : IntKind.i64.wrap (((l.length + 1 : Nat) : Int) - (k : Int)) = ((l.length + 1 - k : Nat) : Int) := by rw [i64_in (by omega) (by omega)]; omega
    conv => whnf
    refine ⟨fun h2 => ?_, fun h2 => ?_⟩
    · have hcc : c < l.length + 1 := by rw [hw1] at h2; have := of_decide_eq_true h2; omega
      conv => whnf
      refine ⟨⟨by omega, by omega⟩, ?_⟩
      conv => whnf
      rw [hw1, hw3]
      refine OOK.appendZ (A := some ⟨b, 0, none⟩) (sn := k) (sc := c) (N := l.length + 1 - k) (old := (l.take k).flatMap encK) rfl (by show some (Value.slice _ _ _) = _; rw [if_neg (by omega)]; rfl) rfl rfl rfl rfl (size := 1) (bytes := 16) rfl rfl rfl (by decide) (by decide) rfl
        (Src.own (i := 0) (q := 0) rfl ht (fun j v hj => by rw [Nat.zero_add, hsp, List.append_assoc, List.getElem?_append_left (List.getElem?_eq_some_iff.1 hj).1]; exact hj)) ht (by omega) (by omega) (by omega) ?_
      intro b' c' zs rest' hle hzl hlc'
      have hkn : k + (l.length + 1 - k) = l.length + 1 := by omega
      rw [hkn] at hle ⊢
      conv => whnf
      refine ⟨⟨by omega, by omega⟩, ?_⟩
      conv => whnf
      refine OOK.copyOwn (b := b') (q := 0 + k * 1) (dn := l.length + 1 - k) (dc := c' - k) (k := 1) (ys := (encK x)) (t' := 9) 2 rfl (by show some (Value.slice _ _ _) = _; rw [if_neg (by omega)]; rfl) rfl rfl rfl (size := 1) rfl rfl
        (SrcN.own (i := 1) (q := 0) rfl (by rw [show Nat.min 1 (l.length + 1 - k) = 1 from Nat.min_eq_left (by omega)]; exact hx1) (fun j v hj => by rw [Nat.zero_add]; exact hj)) h1x (by rw [List.length_append, List.length_append, ht, hzl, Nat.zero_add]; show k * 1 + _ ≤ _; rw [encK_len]; omega)
        (cs' := (l.take k).flatMap encK ++ (encK x) ++ (zs.drop 1 ++ rest')) (by
          rw [show (l.take k).flatMap encK ++ zs ++ rest' = (l.take k).flatMap encK ++ zs.take 1 ++ (zs.drop 1 ++ rest') by rw [List.append_assoc, List.append_assoc, ← List.append_assoc (zs.take 1), List.take_append_drop]]
          exact over (by rw [ht, Nat.zero_add]) (by rw [List.length_take, hzl]; show min 1 _ = _; rw [encK_len]; omega)) ?_
      conv => whnf
      refine COK.draw [] (by kernel_rfl) (by kernel_rfl) ?_
      conv => whnf
      rw [hw2]
      refine ⟨⟨by omega, by omega⟩, ?_⟩
      conv => whnf
      refine ⟨⟨by omega, by omega⟩, ?_⟩
      conv => whnf
      refine OOK.copyOwn (b := b') (q := 0 + (k + 1) * 1) (dn := l.length - k) (dc := c' - (k + 1)) (k := l.length - k) (ys := (l.drop k).flatMap encK) (t' := 9) 2 rfl (by show some (Value.slice _ _ _) = _; rw [if_neg (by show ¬ (c' = k + 1); omega)]; show some (Value.slice _ (l.length + 1 - (k + 1)) _) = _; rw [show l.length + 1 - (k + 1) = l.length - k by omega]; rfl) rfl rfl rfl (size := 1) rfl rfl
        (by
          show SrcN _ _ _ (Value.slice (if c = k then some ⟨b, 0, none⟩ else some (addN ⟨b, 0, none⟩ (k * 1))) (l.length - k) (c - k)) _ _ _ _
          rw [if_neg (by omega)]
          exact SrcN.own (i := 0) (q := 0 + k * 1) rfl (by rw [hd]; show _ = min _ _ * 1; rw [Nat.min_self]) (fun j v hj => by
            rw [Nat.zero_add, ← ht, hsp, List.append_assoc, List.getElem?_append_right (by omega), Nat.add_sub_cancel_left, List.getElem?_append_left (List.getElem?_eq_some_iff.1 hj).1]; exact hj)) h1l
        (by simp only [List.length_append, List.length_drop, ht, hzl, hd, encK_len]; omega)
        (cs' := (l.take k).flatMap encK ++ (encK x) ++ (l.drop k).flatMap encK ++ rest') (by
          rw [show (l.take k).flatMap encK ++ (encK x) ++ (zs.drop 1 ++ rest') = (l.take k).flatMap encK ++ (encK x) ++ zs.drop 1 ++ rest' by simp only [List.append_assoc]]
          exact over (by rw [List.length_append, ht, encK_len]; omega) (by rw [List.length_drop, hzl, hd]; omega)) ?_
      conv => whnf
      refine ⟨⟨rfl, rfl, rfl, trivial⟩, ?_⟩
      conv => whnf
      refine .freeze 2 rfl rfl fun g4 hg4 hb4 => ?_
      refine .mk ⟨_, [0, 1], _, rfl, by decide, rfl, ⟨rfl, rfl, trivial⟩, b', c', _, _, rfl, ?_, hle, rfl⟩
      refine row_of (rest := rest') (el := 9) ?_
      rw [← hins rest', ← List.append_assoc]
      exact hb4
    · have hcc : l.length + 1 ≤ c := by rw [hw1] at h2; have := of_decide_eq_false h2; omega
      have hc0 : ¬ (c = 0) := by omega
      conv => whnf
      rw [hw1]
      refine ⟨⟨by omega, by omega⟩, ?_⟩
      rw [if_neg hc0]
      conv => whnf
      rw [hw2]
      refine ⟨⟨by omega, by omega⟩, ?_⟩
      conv => whnf
      refine OOK.extern (v := .bool false) rfl rfl rfl (fun w hw => ?_) ?_
      · have hb0 := hw.own ⟨b, _⟩ (List.mem_cons_self ..) _ rfl
        have hb1 := hw.own ⟨vb, _⟩ (List.mem_cons_of_mem _ (List.mem_cons_self ..)) _ rfl
        have hne : vb ≠ b := fun h => by
          have := hw.inj 1 0 _ _ rfl rfl rfl rfl h
          omega
        refine (run_callFunc_extern rfl (by kernel_rfl) (by kernel_rfl) (by kernel_rfl) (e := Extern.SlicesOverlaps.overlaps #[26, 26] #[4]) (by kernel_rfl) _ w).trans ?_
        have hz : ∀ w, (Go.sizeOf 9).run Tryz.prog w = .ok 1 w := fun w => (run_size (P := Tryz.prog) (t := 9) rfl w).trans rfl
        have := Lib.run_overlaps_apart (P := Tryz.prog) w 26 4 9 rfl 1 hz ⟨vb, 0, none⟩ ⟨b, 0 + 0 * 1 + (k + 1) * 1, none⟩ 1 1 (l.length + 1 - (k + 1)) (c - (k + 1)) hne 9 9 (encK x).toArray.size (l.flatMap encK ++ rest).toArray.size
          (by simp only [World.shape?]; rw [hb1]) (by simp only [World.shape?]; rw [hb0]) (by rw [List.size_toArray, hc]; omega) (by simp only [World.frozen?]; rw [hb1]; rfl) (by simp only [World.frozen?]; rw [hb1]; rfl)
        show ((Extern.SlicesOverlaps.overlaps #[26, 26] #[4] #[.slice (some ⟨vb, 0, none⟩) 1 1, .slice (if c = k + 1 then some ⟨b, 0 + 0 * 1, none⟩ else some ⟨b, 0 + 0 * 1 + (k + 1) * 1, none⟩) (l.length + 1 - (k + 1)) (c - (k + 1))]).run Tryz.prog w).andThen _ = _
        rw [if_neg (by omega), this]
        rfl
      conv => whnf
      refine ⟨fun _ => ?_, fun h3 => (by cases h3)⟩
      conv => whnf
      refine COK.draw [] (by kernel_rfl) (by kernel_rfl) ?_
      conv => whnf
      rw [hw2]
      refine ⟨⟨by omega, by show (k : Int) + 1 ≤ _; omega⟩, ?_⟩
      conv => whnf
      refine ⟨⟨by omega, by omega⟩, ?_⟩
      conv => whnf
      have hr2 : 1 ≤ rest.length := by omega
      have hspk : (l.drop k).flatMap encK = (encK l[k]) ++ (l.drop (k + 1)).flatMap encK := by
        rw [← List.getElem_cons_drop (h := hk1), List.flatMap_cons]
      have ht1 : ((l.take (k + 1)).flatMap encK).length = (k + 1) * 1 := by rw [flat_len encK_len, List.length_take]; congr 1; omega
      have hd1 : ((l.drop (k + 1)).flatMap encK).length = (l.length - (k + 1)) * 1 := by rw [flat_len encK_len, List.length_drop]
      have hsp1 : l.flatMap encK = (l.take (k + 1)).flatMap encK ++ (l.drop (k + 1)).flatMap encK := by rw [← List.flatMap_append, List.take_append_drop]
      have htk : (l.take (k + 1)).flatMap encK = (l.take k).flatMap encK ++ (encK l[k]) := by
        rw [List.take_succ_eq_append_getElem hk1, List.flatMap_append]; simp
      refine OOK.copyOwn (b := b) (q := 0 + 0 * 1 + (k + 1) * 1) (dn := l.length - k) (dc := c - (k + 1)) (k := l.length + 1 - k) (ys := (l.drop k).flatMap encK) (t' := 9) 0 rfl (by show some (Value.slice (if c = k + 1 then _ else _) (l.length + 1 - (k + 1)) _) = _; rw [if_neg (by omega), show l.length + 1 - (k + 1) = l.length - k by omega]; rfl) rfl rfl rfl (size := 1) rfl rfl
        (by
          show SrcN _ _ _ (Value.slice (if c = k then some ⟨b, 0 + 0 * 1, none⟩ else some (addN ⟨b, 0 + 0 * 1, none⟩ (k * 1))) (l.length + 1 - k) (c - k)) _ _ _ _
          rw [if_neg (by omega)]
          exact SrcN.own (i := 0) (q := 0 + 0 * 1 + k * 1) rfl (by rw [hd]; show _ = min _ _ * 1; rw [Nat.min_eq_right (by omega)]) (fun j v hj => by
            rw [show 0 + 0 * 1 + k * 1 = k * 1 by omega, ← ht, hsp, List.append_assoc, List.getElem?_append_right (by omega), Nat.add_sub_cancel_left, List.getElem?_append_left (List.getElem?_eq_some_iff.1 hj).1]; exact hj)) h1l
        (by simp only [List.length_append, hlen, hd]; omega)
        (cs' := (l.take (k + 1)).flatMap encK ++ (l.drop k).flatMap encK ++ rest.drop 1) (by
          rw [show l.flatMap encK ++ rest = (l.take (k + 1)).flatMap encK ++ ((l.drop (k + 1)).flatMap encK ++ rest.take 1) ++ rest.drop 1 by rw [hsp1]; simp only [List.append_assoc, List.take_append_drop]]
          exact over (by rw [ht1]; omega) (by rw [List.length_append, hd1, hd, List.length_take]; omega)) ?_
      conv => whnf
      refine ⟨⟨rfl, rfl, trivial⟩, ?_⟩
      conv => whnf
      refine ⟨⟨by omega, by omega⟩, ?_⟩
      conv => whnf
      refine OOK.copyOwn (b := b) (q := 0 + 0 * 1 + k * 1) (dn := l.length + 1 - k) (dc := c - k) (k := 1) (ys := (encK x)) (t' := 9) 0 rfl (by show some (Value.slice (if c = k then _ else _) (l.length + 1 - k) _) = _; rw [if_neg (by omega)]; rfl) rfl rfl rfl (size := 1) rfl rfl
        (SrcN.own (i := 1) (q := 0) rfl (by rw [show Nat.min 1 (l.length + 1 - k) = 1 from Nat.min_eq_left (by omega)]; exact hx1) (fun j v hj => by rw [Nat.zero_add]; exact hj)) h1x (by simp only [List.length_append, ht1, hd, encK_len]; omega)
        (cs' := (l.take k).flatMap encK ++ (encK x) ++ ((l.drop k).flatMap encK ++ rest.drop 1)) (by
          rw [show (l.take (k + 1)).flatMap encK ++ (l.drop k).flatMap encK ++ rest.drop 1 = (l.take k).flatMap encK ++ (encK l[k]) ++ ((l.drop k).flatMap encK ++ rest.drop 1) by rw [htk]; simp only [List.append_assoc]]
          exact over (by rw [ht]; omega) (by rw [encK_len, encK_len])) ?_
      conv => whnf
      refine .freeze 0 rfl rfl fun g4 hg4 hb4 => ?_
      refine .mk ⟨_, [0, 1], _, rfl, by decide, rfl, ⟨rfl, rfl, trivial⟩, b, c, _, _, rfl, ?_, hcc, rfl⟩
      refine row_of (rest := rest.drop 1) (el := 9) ?_
      rw [← hins (rest.drop 1)]
      exact hb4
theorem f_insS0 (g : GH) (A : Option Addr) (vb : Nat) (x : (List UInt8)) :
    Tri Tryz.prog 38 [.slice A 0 0, .int .i64 0, .slice (some ⟨vb, 0, none⟩) 1 1] g [⟨vb, .cells (encK x) 9 (0, 0)⟩]
      fun v g' m' => ∃ b' c' s0, v = .slice (some ⟨b', 0, none⟩) 1 c' ∧ Row g' encK (some ⟨b', 0, none⟩) [x] ∧ 1 ≤ c' ∧ m' = [s0] := by
  have hx1 : (encK x).length = 1 * 1 := by rw [encK_len]
  refine Tri.vc [.val (.slice A 0 0), .val (.int .i64 0), .val (.slice (some ⟨vb, 0, none⟩) 1 1)] Tryz.func38 rfl Tryz.ntmps38 rfl rfl ?_
  conv => whnf
  refine ⟨⟨Int.le_refl _, Int.le_refl _⟩, ?_⟩
  conv => whnf
  refine ⟨fun h1 => absurd h1 (by decide), fun _ => ?_⟩
  conv => whnf
  refine ⟨fun h1 => ?_, fun h1 => absurd h1 (by decide)⟩
  conv => whnf
  refine OOK.appendNew (old := []) (ys := (encK x)) (k := 1) rfl rfl rfl rfl (.inl ⟨_, rfl⟩) rfl (size := 1) (bytes := 16) rfl rfl rfl (by decide) rfl Src.nil' rfl hx1 (by decide) (Src.own (i := 0) (q := 0) rfl hx1 (fun j v hj => by rw [Nat.zero_add]; exact hj)) (by decide) ?_
  intro b' c' rest' hle hlc
  conv => whnf
  refine .freeze 1 rfl rfl fun g4 hg4 hb4 => ?_
  refine .mk ⟨_, [0], _, rfl, by decide, rfl, ⟨rfl, trivial⟩, b', c', _, rfl, ?_, by omega, rfl⟩
  refine row_of (rest := rest') (el := 9) ?_
  simpa using hb4
theorem f_cloneV (g : GH) (A : Option Addr) (c : Nat) (l : List Val) (hA : Row g Val.cells A l) (hl : l.length ≤ 100000) :
    Tri Tryz.prog 7 [.slice A l.length c] g [] fun v g' m' => ∃ s A' c', OwnAt 28 5 Val.cells l s A' c' ∧ v = .slice A' l.length c' ∧ m' = [s] := by
  have hlen := flat_len Val.len l
  refine Tri.cok [.val (.slice A l.length c)] Tryz.func7 rfl Tryz.ntmps7 rfl rfl ?_
  refine COK.dummy 0 ?_
  cases A with
  | none =>
    have : l = [] := by
      cases l with
      | nil => rfl
      | cons x r => obtain ⟨a, h, _⟩ := hA (by simp); cases h
    subst this
    refine vcC_ok _ _ _ _ _ ?_
    conv => whnf
    refine ⟨fun _ => ?_, fun q => by cases q⟩
    conv => whnf
    exact .mk ⟨_, [0], _, rfl, by decide, rfl, trivial, ⟨0, .dead⟩, none, 0, .nil _ rfl, rfl, rfl⟩
  | some a =>
    refine vcC_ok _ _ _ _ _ ?_
    conv => whnf
    refine ⟨(by intro q; cases q), fun _ => ?_⟩
    conv => whnf
    intro b
    conv => whnf
    by_cases h0 : l = []
    · subst h0
      refine OOK.appendNone rfl rfl rfl rfl (.inl ⟨_, rfl⟩) rfl (size := 5) (bytes := 80) rfl rfl (Src.nil') ?_
      conv => whnf
      exact .mk ⟨_, [1], _, rfl, by decide, rfl, trivial, _, some ⟨b, 0, none⟩, 0, .own b 0 [] rfl (Nat.le_refl _), rfl, rfl⟩
    · obtain ⟨a', ha, hr⟩ := hA h0
      obtain rfl := Option.some.inj ha
      have hpos : 0 < l.length := List.length_pos_iff.2 h0
      refine OOK.appendNew (old := []) (ys := l.flatMap Val.cells) (k := l.length) rfl rfl rfl rfl (.inl ⟨_, rfl⟩) rfl (size := 5) (bytes := 80) rfl rfl rfl (by decide) rfl Src.nil' rfl hlen (by omega) (Src.reads hlen hr) (by omega) ?_
      intro b' c' rest hle hlc
      conv => whnf
      exact .mk ⟨_, [2], _, rfl, by decide, rfl, trivial, _, some ⟨b', 0, none⟩, c', .own b' c' rest (by simpa using hlc) (by omega), by rw [Nat.zero_add]; rfl, rfl⟩
theorem f_insV (g : GH) (b vb c : Nat) (l : List Val) (rest : List Value) (k : Nat) (x : Val) (hk : k ≤ l.length) (hl : l.length ≤ 100000) (hc : (l.flatMap Val.cells ++ rest).length = c * 5) (hlc : l.length ≤ c) :
    Tri Tryz.prog 59 [.slice (some ⟨b, 0, none⟩) l.length c, .int .i64 (k : Int), .slice (some ⟨vb, 0, none⟩) 1 1] g [⟨b, .cells (l.flatMap Val.cells ++ rest) 28 (0, 0)⟩, ⟨vb, .cells (Val.cells x) 28 (0, 0)⟩]
      fun v g' m' => ∃ b' c' s0 s1, v = .slice (some ⟨b', 0, none⟩) (l.length + 1) c' ∧ Row g' Val.cells (some ⟨b', 0, none⟩) (insAt l k x) ∧ l.length + 1 ≤ c' ∧ m' = [s0, s1] := by
  have hlen := flat_len Val.len l
  have hx1 : (Val.cells x).length = 1 * 5 := by rw [Val.len]
  refine Tri.vc [.val (.slice (some ⟨b, 0, none⟩) l.length c), .val (.int .i64 (k : Int)), .val (.slice (some ⟨vb, 0, none⟩) 1 1)] Tryz.func59 rfl Tryz.ntmps59 rfl rfl ?_
  have hrl : rest.length = c * 5 - l.length * 5 := by rw [List.length_append, hlen] at hc; omega
  have ht : ((l.take k).flatMap Val.cells).length = k * 5 := by rw [flat_len Val.len, List.length_take]; congr 1; omega
  have hd : ((l.drop k).flatMap Val.cells).length = (l.length - k) * 5 := by rw [flat_len Val.len, List.length_drop]
  have hsp : l.flatMap Val.cells = (l.take k).flatMap Val.cells ++ (l.drop k).flatMap Val.cells := by rw [← List.flatMap_append, List.take_append_drop]
  have hins : ∀ r, (l.take k).flatMap Val.cells ++ (Val.cells x) ++ ((l.drop k).flatMap Val.cells ++ r) = (insAt l k x).flatMap Val.cells ++ r := fun r => by
    unfold insAt
    rw [List.flatMap_append, List.flatMap_cons]
    simp only [List.append_assoc]
  have h1x : ∀ v ∈ (Val.cells x), v.oneCell' = true := Val.one x
  have h1l : ∀ v ∈ (l.drop k).flatMap Val.cells, v.oneCell' = true := fun v hv => by
    obtain ⟨y, _, hy⟩ := List.mem_flatMap.1 hv
    exact Val.one y v hy
  conv => whnf
  refine ⟨⟨by omega, by omega⟩, ?_⟩
  conv => whnf
  refine ⟨fun h1 => absurd h1 (by decide), fun _ => ?_⟩
  conv => whnf
  refine ⟨fun h1 => ?_, fun h1 => ?_⟩
  · have hk1 : k = l.length := by have := eq_of_beq h1; omega
    subst hk1
    conv => whnf
    refine OOK.appendOwn (sn := l.length) (sc := c) (k := 1) (old := l.flatMap Val.cells) (ys := (Val.cells x)) 0 rfl rfl rfl rfl (.inl ⟨_, rfl⟩) rfl (size := 5) (bytes := 80) rfl rfl rfl (by decide) rfl rfl (by rw [← hlen, List.take_left']; rfl) hlen hc hx1 (Src.own (i := 1) (q := 0) rfl hx1 (fun j v hj => by rw [Nat.zero_add]; exact hj)) h1x (by omega) ?_
    intro b' c' rest' hle hlc' _
    conv => whnf
    refine .freeze 2 rfl rfl fun g4 hg4 hb4 => ?_
    refine .mk ⟨_, [0, 1], _, rfl, by decide, rfl, ⟨rfl, rfl, trivial⟩, b', c', _, _, rfl, ?_, hle, rfl⟩
    refine row_of (rest := rest') (el := 28) ?_
    have hi := hins rest'
    rw [List.take_length, List.drop_length, List.flatMap_nil, List.nil_append] at hi
    rw [← hi]
    exact hb4
  · have hk1 : k < l.length := by
      have : ¬ ((k : Int) = (l.length : Int)) := by simpa using h1
      omega
    have hw1 : IntKind.i64.wrap ((l.length : Int) + ((1 : Nat) : Int)) = ((l.length + 1 : Nat) : Int) := i64_in (by omega) (by omega)
    have hw2 : IntKind.i64.wrap ((k : Int) + ((1 : Nat) : Int)) = ((k + 1 : Nat) : Int) := i64_in (by omega) (by omega)
    have hw3 : IntKind.i64.wrap (((l.length + 1 : Nat) : Int) - (k : Int)) = ((l.length + 1 - k : Nat) : Int) := by rw [i64_in (by omega) (by omega)]; omega
    conv => whnf
    refine ⟨fun h2 => ?_, fun h2 => ?_⟩
    · have hcc : c < l.length + 1 := by rw [hw1] at h2; have := of_decide_eq_true h2; omega
      conv => whnf
      refine ⟨⟨by omega, by omega⟩, ?_⟩
      conv => whnf
      rw [hw1, hw3]
      refine OOK.appendZ (A := some ⟨b, 0, none⟩) (sn := k) (sc := c) (N := l.length + 1 - k) (old := (l.take k).flatMap Val.cells) rfl (by show some (Value.slice _ _ _) = _; rw [if_neg (by omega)]; rfl) rfl rfl rfl rfl (size := 5) (bytes := 80) rfl rfl rfl (by decide) (by decide) rfl
        (Src.own (i := 0) (q := 0) rfl ht (fun j v hj => by rw [Nat.zero_add, hsp, List.append_assoc, List.getElem?_append_left (List.getElem?_eq_some_iff.1 hj).1]; exact hj)) ht (by omega) (by omega) (by omega) ?_
      intro b' c' zs rest' hle hzl hlc'
      have hkn : k + (l.length + 1 - k) = l.length + 1 := by omega
      rw [hkn] at hle ⊢
      conv => whnf
      refine ⟨⟨by omega, by omega⟩, ?_⟩
      conv => whnf
      refine OOK.copyOwn (b := b') (q := 0 + k * 5) (dn := l.length + 1 - k) (dc := c' - k) (k := 1) (ys := (Val.cells x)) (t' := 28) 2 rfl (by show some (Value.slice _ _ _) = _; rw [if_neg (by omega)]; rfl) rfl rfl rfl (size := 5) rfl rfl
        (SrcN.own (i := 1) (q := 0) rfl (by rw [show Nat.min 1 (l.length + 1 - k) = 1 from Nat.min_eq_left (by omega)]; exact hx1) (fun j v hj => by rw [Nat.zero_add]; exact hj)) h1x (by rw [List.length_append, List.length_append, ht, hzl, Nat.zero_add]; show k * 5 + _ ≤ _; rw [Val.len]; omega)
        (cs' := (l.take k).flatMap Val.cells ++ (Val.cells x) ++ (zs.drop 5 ++ rest')) (by
          rw [show (l.take k).flatMap Val.cells ++ zs ++ rest' = (l.take k).flatMap Val.cells ++ zs.take 5 ++ (zs.drop 5 ++ rest') by rw [List.append_assoc, List.append_assoc, ← List.append_assoc (zs.take 5), List.take_append_drop]]
          exact over (by rw [ht, Nat.zero_add]) (by rw [List.length_take, hzl]; show min 5 _ = _; rw [Val.len]; omega)) ?_
      conv => whnf
      refine COK.draw [] (by kernel_rfl) (by kernel_rfl) ?_
      conv => whnf
      rw [hw2]
      refine ⟨⟨by omega, by omega⟩, ?_⟩
      conv => whnf
      refine ⟨⟨by omega, by omega⟩, ?_⟩
      conv => whnf
      refine OOK.copyOwn (b := b') (q := 0 + (k + 1) * 5) (dn := l.length - k) (dc := c' - (k + 1)) (k := l.length - k) (ys := (l.drop k).flatMap Val.cells) (t' := 28) 2 rfl (by show some (Value.slice _ _ _) = _; rw [if_neg (by show ¬ (c' = k + 1); omega)]; show some (Value.slice _ (l.length + 1 - (k + 1)) _) = _; rw [show l.length + 1 - (k + 1) = l.length - k by omega]; rfl) rfl rfl rfl (size := 5) rfl rfl
        (by
          show SrcN _ _ _ (Value.slice (if c = k then some ⟨b, 0, none⟩ else some (addN ⟨b, 0, none⟩ (k * 5))) (l.length - k) (c - k)) _ _ _ _
          rw [if_neg (by omega)]
          exact SrcN.own (i := 0) (q := 0 + k * 5) rfl (by rw [hd]; show _ = min _ _ * 5; rw [Nat.min_self]) (fun j v hj => by
            rw [Nat.zero_add, ← ht, hsp, List.append_assoc, List.getElem?_append_right (by omega), Nat.add_sub_cancel_left, List.getElem?_append_left (List.getElem?_eq_some_iff.1 hj).1]; exact hj)) h1l
        (by simp only [List.length_append, List.length_drop, ht, hzl, hd, Val.len]; omega)
        (cs' := (l.take k).flatMap Val.cells ++ (Val.cells x) ++ (l.drop k).flatMap Val.cells ++ rest') (by
          rw [show (l.take k).flatMap Val.cells ++ (Val.cells x) ++ (zs.drop 5 ++ rest') = (l.take k).flatMap Val.cells ++ (Val.cells x) ++ zs.drop 5 ++ rest' by simp only [List.append_assoc]]
          exact over (by rw [List.length_append, ht, Val.len]; omega) (by rw [List.length_drop, hzl, hd]; omega)) ?_
      conv => whnf
      refine ⟨⟨rfl, rfl, rfl, trivial⟩, ?_⟩
      conv => whnf
      refine .freeze 2 rfl rfl fun g4 hg4 hb4 => ?_
      refine .mk ⟨_, [0, 1], _, rfl, by decide, rfl, ⟨rfl, rfl, trivial⟩, b', c', _, _, rfl, ?_, hle, rfl⟩
      refine row_of (rest := rest') (el := 28) ?_
      rw [← hins rest', ← List.append_assoc]
      exact hb4
    · have hcc : l.length + 1 ≤ c := by rw [hw1] at h2; have := of_decide_eq_false h2; omega
      have hc0 : ¬ (c = 0) := by omega
      conv => whnf
      rw [hw1]
      refine ⟨⟨by omega, by omega⟩, ?_⟩
      rw [if_neg hc0]
      conv => whnf
      rw [hw2]
      refine ⟨⟨by omega, by omega⟩, ?_⟩
      conv => whnf
      refine OOK.extern (v := .bool false) rfl rfl rfl (fun w hw => ?_) ?_
      · have hb0 := hw.own ⟨b, _⟩ (List.mem_cons_self ..) _ rfl
        have hb1 := hw.own ⟨vb, _⟩ (List.mem_cons_of_mem _ (List.mem_cons_self ..)) _ rfl
        have hne : vb ≠ b := fun h => by
          have := hw.inj 1 0 _ _ rfl rfl rfl rfl h
          omega
        refine (run_callFunc_extern rfl (by kernel_rfl) (by kernel_rfl) (by kernel_rfl) (e := Extern.SlicesOverlaps.overlaps #[25, 25] #[4]) (by kernel_rfl) _ w).trans ?_
        have hz : ∀ w, (Go.sizeOf 28).run Tryz.prog w = .ok 5 w := fun w => (run_size (P := Tryz.prog) (t := 28) rfl w).trans rfl
        have := Lib.run_overlaps_apart (P := Tryz.prog) w 25 4 28 rfl 5 hz ⟨vb, 0, none⟩ ⟨b, 0 + 0 * 5 + (k + 1) * 5, none⟩ 1 1 (l.length + 1 - (k + 1)) (c - (k + 1)) hne 28 28 (Val.cells x).toArray.size (l.flatMap Val.cells ++ rest).toArray.size
          (by simp only [World.shape?]; rw [hb1]) (by simp only [World.shape?]; rw [hb0]) (by rw [List.size_toArray, hc]; omega) (by simp only [World.frozen?]; rw [hb1]; rfl) (by simp only [World.frozen?]; rw [hb1]; rfl)
        show ((Extern.SlicesOverlaps.overlaps #[25, 25] #[4] #[.slice (some ⟨vb, 0, none⟩) 1 1, .slice (if c = k + 1 then some ⟨b, 0 + 0 * 5, none⟩ else some ⟨b, 0 + 0 * 5 + (k + 1) * 5, none⟩) (l.length + 1 - (k + 1)) (c - (k + 1))]).run Tryz.prog w).andThen _ = _
        rw [if_neg (by omega), this]
        rfl
      conv => whnf
      refine ⟨fun _ => ?_, fun h3 => (by cases h3)⟩
      conv => whnf
      refine COK.draw [] (by kernel_rfl) (by kernel_rfl) ?_
      conv => whnf
      rw [hw2]
      refine ⟨⟨by omega, by show (k : Int) + 1 ≤ _; omega⟩, ?_⟩
      conv => whnf
      refine ⟨⟨by omega, by omega⟩, ?_⟩
      conv => whnf
      have hr2 : 5 ≤ rest.length := by omega
      have hspk : (l.drop k).flatMap Val.cells = (Val.cells l[k]) ++ (l.drop (k + 1)).flatMap Val.cells := by
        rw [← List.getElem_cons_drop (h := hk1), List.flatMap_cons]
      have ht1 : ((l.take (k + 1)).flatMap Val.cells).length = (k + 1) * 5 := by rw [flat_len Val.len, List.length_take]; congr 1; omega
      have hd1 : ((l.drop (k + 1)).flatMap Val.cells).length = (l.length - (k + 1)) * 5 := by rw [flat_len Val.len, List.length_drop]
      have hsp1 : l.flatMap Val.cells = (l.take (k + 1)).flatMap Val.cells ++ (l.drop (k + 1)).flatMap Val.cells := by rw [← List.flatMap_append, List.take_append_drop]
      have htk : (l.take (k + 1)).flatMap Val.cells = (l.take k).flatMap Val.cells ++ (Val.cells l[k]) := by
        rw [List.take_succ_eq_append_getElem hk1, List.flatMap_append]; simp
      refine OOK.copyOwn (b := b) (q := 0 + 0 * 5 + (k + 1) * 5) (dn := l.length - k) (dc := c - (k + 1)) (k := l.length + 1 - k) (ys := (l.drop k).flatMap Val.cells) (t' := 28) 0 rfl (by show some (Value.slice (if c = k + 1 then _ else _) (l.length + 1 - (k + 1)) _) = _; rw [if_neg (by omega), show l.length + 1 - (k + 1) = l.length - k by omega]; rfl) rfl rfl rfl (size := 5) rfl rfl
        (by
          show SrcN _ _ _ (Value.slice (if c = k then some ⟨b, 0 + 0 * 5, none⟩ else some (addN ⟨b, 0 + 0 * 5, none⟩ (k * 5))) (l.length + 1 - k) (c - k)) _ _ _ _
          rw [if_neg (by omega)]
          exact SrcN.own (i := 0) (q := 0 + 0 * 5 + k * 5) rfl (by rw [hd]; show _ = min _ _ * 5; rw [Nat.min_eq_right (by omega)]) (fun j v hj => by
            rw [show 0 + 0 * 5 + k * 5 = k * 5 by omega, ← ht, hsp, List.append_assoc, List.getElem?_append_right (by omega), Nat.add_sub_cancel_left, List.getElem?_append_left (List.getElem?_eq_some_iff.1 hj).1]; exact hj)) h1l
        (by simp only [List.length_append, hlen, hd]; omega)
        (cs' := (l.take (k + 1)).flatMap Val.cells ++ (l.drop k).flatMap Val.cells ++ rest.drop 5) (by
          rw [show l.flatMap Val.cells ++ rest = (l.take (k + 1)).flatMap Val.cells ++ ((l.drop (k + 1)).flatMap Val.cells ++ rest.take 5) ++ rest.drop 5 by rw [hsp1]; simp only [List.append_assoc, List.take_append_drop]]
          exact over (by rw [ht1]; omega) (by rw [List.length_append, hd1, hd, List.length_take]; omega)) ?_
      conv => whnf
      refine ⟨⟨rfl, rfl, trivial⟩, ?_⟩
      conv => whnf
      refine ⟨⟨by omega, by omega⟩, ?_⟩
      conv => whnf
      refine OOK.copyOwn (b := b) (q := 0 + 0 * 5 + k * 5) (dn := l.length + 1 - k) (dc := c - k) (k := 1) (ys := (Val.cells x)) (t' := 28) 0 rfl (by show some (Value.slice (if c = k then _ else _) (l.length + 1 - k) _) = _; rw [if_neg (by omega)]; rfl) rfl rfl rfl (size := 5) rfl rfl
        (SrcN.own (i := 1) (q := 0) rfl (by rw [show Nat.min 1 (l.length + 1 - k) = 1 from Nat.min_eq_left (by omega)]; exact hx1) (fun j v hj => by rw [Nat.zero_add]; exact hj)) h1x (by simp only [List.length_append, ht1, hd, Val.len]; omega)
        (cs' := (l.take k).flatMap Val.cells ++ (Val.cells x) ++ ((l.drop k).flatMap Val.cells ++ rest.drop 5)) (by
          rw [show (l.take (k + 1)).flatMap Val.cells ++ (l.drop k).flatMap Val.cells ++ rest.drop 5 = (l.take k).flatMap Val.cells ++ (Val.cells l[k]) ++ ((l.drop k).flatMap Val.cells ++ rest.drop 5) by rw [htk]; simp only [List.append_assoc]]
          exact over (by rw [ht]; omega) (by rw [Val.len, Val.len])) ?_
      conv => whnf
      refine .freeze 0 rfl rfl fun g4 hg4 hb4 => ?_
      refine .mk ⟨_, [0, 1], _, rfl, by decide, rfl, ⟨rfl, rfl, trivial⟩, b, c, _, _, rfl, ?_, hcc, rfl⟩
      refine row_of (rest := rest.drop 5) (el := 28) ?_
      rw [← hins (rest.drop 5)]
      exact hb4
theorem f_insV0 (g : GH) (A : Option Addr) (vb : Nat) (x : Val) :
    Tri Tryz.prog 59 [.slice A 0 0, .int .i64 0, .slice (some ⟨vb, 0, none⟩) 1 1] g [⟨vb, .cells (Val.cells x) 28 (0, 0)⟩]
      fun v g' m' => ∃ b' c' s0, v = .slice (some ⟨b', 0, none⟩) 1 c' ∧ Row g' Val.cells (some ⟨b', 0, none⟩) [x] ∧ 1 ≤ c' ∧ m' = [s0] := by
  have hx1 : (Val.cells x).length = 1 * 5 := by rw [Val.len]
  refine Tri.vc [.val (.slice A 0 0), .val (.int .i64 0), .val (.slice (some ⟨vb, 0, none⟩) 1 1)] Tryz.func59 rfl Tryz.ntmps59 rfl rfl ?_
  conv => whnf
  refine ⟨⟨Int.le_refl _, Int.le_refl _⟩, ?_⟩
  conv => whnf
  refine ⟨fun h1 => absurd h1 (by decide), fun _ => ?_⟩
  conv => whnf
  refine ⟨fun h1 => ?_, fun h1 => absurd h1 (by decide)⟩
  conv => whnf
  refine OOK.appendNew (old := []) (ys := (Val.cells x)) (k := 1) rfl rfl rfl rfl (.inl ⟨_, rfl⟩) rfl (size := 5) (bytes := 80) rfl rfl rfl (by decide) rfl Src.nil' rfl hx1 (by decide) (Src.own (i := 0) (q := 0) rfl hx1 (fun j v hj => by rw [Nat.zero_add]; exact hj)) (by decide) ?_
  intro b' c' rest' hle hlc
  conv => whnf
  refine .freeze 1 rfl rfl fun g4 hg4 hb4 => ?_
  refine .mk ⟨_, [0], _, rfl, by decide, rfl, ⟨rfl, trivial⟩, b', c', _, rfl, ?_, by omega, rfl⟩
  refine row_of (rest := rest') (el := 28) ?_
  simpa using hb4
end Go.Proofs.YthkfnmmbjoadbaaGreatDoor
/- WholeTexts: slices.BinarySearch in keys. -/
set_option linter.unusedVariables false
set_option linter.unusedSimpArgs false
set_option maxRecDepth 100000
namespace Go.Proofs.YthkfnmmbjoadbaaGreatDoor
open Go Go.SX

theorem YN.loadIn {P : Program} {n : Cfg} {o : Oper} {e : Env} {m : Mem} {g : GH} {t : TypeId} {x : Operand} {K : SV → Prop} {a : Addr} {v : Value} (hop : o.op = .load t x) (hx : e.va m x = some (.pointer (some a))) (ht : aggN P t = some none)
    (hc : ReadsIn g m a [v]) (k : K (.val v)) : YN P n o e m g K := by
  rcases hc with h | ⟨i, b, q, c, t', fr, h1, rfl, h2⟩
  · exact .load hop hx ht (Reads.at0 h) k
  · exact .loadOwn i hop hx ht h1 (h2 0 v rfl) k
def Asc (l : List (List UInt8)) : Prop := l.Pairwise fun a b => a < b
theorem Asc.lt {l : List (List UInt8)} (h : Asc l) {i j : Nat} {a b : List UInt8} (hi : l[i]? = some a) (hj : l[j]? = some b) (hij : i < j) : a < b := by
  obtain ⟨h1, h2⟩ := List.getElem?_eq_some_iff.1 hi
  obtain ⟨h3, h4⟩ := List.getElem?_eq_some_iff.1 hj
  have := List.pairwise_iff_getElem.1 h i j h1 h3 hij
  rw [h2, h4] at this
  exact this
/-- Where a key stands, or would stand. -/
structure At (l : List (List UInt8)) (k : List UInt8) (i : Nat) : Prop where
  le : i ≤ l.length
  lo : ∀ (j : Nat) (y : List UInt8), j < i → l[j]? = some y → y < k
  hi : ∀ (j : Nat) (y : List UInt8), i ≤ j → l[j]? = some y → ¬ y < k
structure Bs where
  i : Nat
  j : Nat
theorem f_bin (g : GH) (ow : Mem) (A : Option Addr) (c : Nat) (l : List (List UInt8)) (k : List UInt8) (hA : RowIn g ow encK A l) (hl : l.length ≤ 1000) (hs : Asc l) :
    Tri Tryz.prog 58 [.slice A l.length c, .string (str k)] g ow fun v g' m' => m' = ow ∧ ∃ (i : Nat) (b : Bool), v = .tuple #[.int .i64 i, .bool b] ∧ At l k i ∧ (b = true ↔ l[i]? = some k) := by
  refine Tri.vc [.val (.slice A l.length c), .val (.string (str k))] Tryz.func58 rfl Tryz.ntmps58 rfl rfl ?_
  conv => whnf
  refine COK.loop (α := Bs) (fun x => [(0, .val (.slice A l.length c)), (1, .val (.string (str k))), (6, .val (.int .i64 l.length)), (7, .val (.int .i64 x.i)), (8, .val (.int .i64 x.j))]) (fun _ => ow) (fun x _ => x.i ≤ x.j ∧ x.j ≤ l.length ∧ (∀ (j : Nat) (y : List UInt8), j < x.i → l[j]? = some y → y < k) ∧ ∀ (j : Nat) (y : List UInt8), x.j ≤ j → l[j]? = some y → ¬ y < k) (fun x => x.j - x.i) ⟨0, l.length⟩ (List.range ow.length) (Sub.of List.nodup_range (pick_range _) ⟨rfl, rfl, rfl, rfl, rfl, trivial⟩) ⟨Nat.zero_le _, Nat.le_refl _, (fun j y hj => absurd hj (Nat.not_lt_zero _)), fun j y hj hy => by rw [List.getElem?_eq_none hj] at hy; cases hy⟩ ?_
  rintro ⟨i, j⟩ g1 hg1 ⟨hij, hj, hlo, hhi⟩
  simp only at hij hj hlo hhi
  dsimp only
  by_cases hlt : i < j
  · obtain ⟨m, hm⟩ : ∃ m, m = (i + j) / 2 := ⟨_, rfl⟩
    have hmid : IntKind.i64.wrap ((IntKind.u64.wrap (IntKind.i64.wrap ((i : Int) + (j : Int)))).fdiv (2 ^ min (Int.toNat 1) IntKind.u64.bits)) = (m : Int) := by
      rw [i64_in (x := (i : Int) + (j : Int)) (by omega) (by omega), IntKind.wrap_u64]
      have e1 : ((i : Int) + (j : Int)) % 18446744073709551616 = (i : Int) + (j : Int) := by omega
      have e2 : min (Int.toNat 1) IntKind.u64.bits = 1 := rfl
      rw [e1, e2, Int.fdiv_eq_ediv_of_nonneg _ (by decide)]
      have e3 : ((i : Int) + (j : Int)) / 2 ^ 1 = (m : Int) := by rw [hm]; omega
      rw [e3]
      exact i64_in (by omega) (by omega)
    obtain ⟨y, hy⟩ : ∃ y, l[m]? = some y := ⟨_, List.getElem?_eq_getElem (by omega)⟩
    obtain ⟨a, rfl, hr⟩ := (hA.mono hg1).at_ encK_len hy
    refine vcC_ok _ _ _ _ _ ?_
    conv => whnf
    refine ⟨fun _ => ?_, fun q => absurd (of_decide_eq_false q) (by omega)⟩
    conv => whnf
    rw [hmid]
    refine ⟨⟨by omega, by omega⟩, ?_⟩
    conv => whnf
    refine OOK.yn (YN.loadIn rfl rfl rfl hr ?_)
    conv => whnf
    refine OOK.callAll rfl rfl rfl (by kernel_rfl) rfl (Tri.sub [] List.nodup_nil rfl (f_less g1 y k)) ?_
    rintro v_ g2 m_ hg2 ⟨rfl, rfl⟩
    conv => whnf
    refine ⟨fun q => ?_, fun q => ?_⟩
    · have hyk : y < k := of_decide_eq_true q
      conv => whnf
      refine ⟨⟨m + 1, j⟩, List.range _, Sub.of List.nodup_range (pick_range _) ⟨rfl, rfl, rfl, int_eq (i64_in (by omega) (by omega)), rfl, trivial⟩, ⟨by show m + 1 ≤ j; omega, hj, fun j' z hj' hz => ?_, hhi⟩, by show j - (m + 1) < j - i; omega⟩
      rcases Nat.lt_succ_iff_lt_or_eq.1 hj' with h | rfl
      · exact List.lt_trans (hs.lt hz hy h) hyk
      · rw [hy] at hz; obtain rfl := Option.some.inj hz; exact hyk
    · have hyk : ¬ y < k := of_decide_eq_false q
      conv => whnf
      refine ⟨⟨i, m⟩, List.range _, Sub.of List.nodup_range (pick_range _) ⟨rfl, rfl, rfl, rfl, rfl, trivial⟩, ⟨by show i ≤ m; omega, by show m ≤ l.length; omega, hlo, fun j' z hj' hz => ?_⟩, by show m - i < j - i; omega⟩
      simp only at hj'
      rcases Nat.lt_or_ge m j' with h | h
      · exact fun hzk => hyk (List.lt_trans (hs.lt hy hz h) hzk)
      · obtain rfl : j' = m := by omega
        rw [hy] at hz; obtain rfl := Option.some.inj hz; exact hyk
  · obtain rfl : i = j := by omega
    refine vcC_ok _ _ _ _ _ ?_
    conv => whnf
    refine ⟨fun q => absurd (of_decide_eq_true q) (by omega), fun _ => ?_⟩
    conv => whnf
    refine ⟨fun q => ?_, fun q => ?_⟩
    · have hil : i < l.length := by have := of_decide_eq_true q; omega
      obtain ⟨y, hy⟩ : ∃ y, l[i]? = some y := ⟨_, List.getElem?_eq_getElem hil⟩
      obtain ⟨a, rfl, hr⟩ := (hA.mono hg1).at_ encK_len hy
      conv => whnf
      refine ⟨⟨by omega, by omega⟩, ?_⟩
      conv => whnf
      refine OOK.yn (YN.loadIn rfl rfl rfl hr ?_)
      conv => whnf
      refine ⟨fun q2 => ?_, fun q2 => ?_⟩
      · have hyk : y = k := by rw [str_beq] at q2; simpa using q2
        conv => whnf
        exact .mk ⟨_, List.range ow.length, _, rfl, List.nodup_range, pick_range _, extL_refl _, rfl, i, true, rfl, ⟨hj, hlo, hhi⟩, ⟨fun _ => by rw [hy, hyk], fun _ => rfl⟩⟩
      · have hyk : y ≠ k := by rw [str_beq] at q2; simpa using q2
        conv => whnf
        refine ⟨⟨by omega, by omega⟩, ?_⟩
        conv => whnf
        refine OOK.yn (YN.loadIn rfl rfl rfl hr ?_)
        conv => whnf
        refine OOK.callAll rfl rfl rfl (by kernel_rfl) rfl (Tri.sub [] List.nodup_nil rfl (f_isnan2 g1 y)) ?_
        rintro v_ g2 m_ hg2 ⟨rfl, rfl⟩
        conv => whnf
        refine ⟨(by intro q; cases q), fun _ => ?_⟩
        conv => whnf
        exact .mk ⟨_, List.range _, _, rfl, List.nodup_range, pick_range _, extL_refl _, rfl, i, false, rfl, ⟨hj, hlo, hhi⟩, ⟨fun h => (by cases h), fun h => absurd (by rw [hy] at h; exact Option.some.inj h) hyk⟩⟩
    · conv => whnf
      have hil : l.length ≤ i := by have := of_decide_eq_false q; omega
      exact .mk ⟨_, List.range ow.length, _, rfl, List.nodup_range, pick_range _, extL_refl _, rfl, i, false, rfl, ⟨hj, hlo, hhi⟩, ⟨fun h => (by cases h), fun h => by rw [List.getElem?_eq_none hil] at h; cases h⟩⟩
end Go.Proofs.YthkfnmmbjoadbaaGreatDoor
/- WholeTexts: loomPut. -/
set_option linter.unusedVariables false
set_option linter.unusedSimpArgs false
set_option maxRecDepth 100000
namespace Go.Proofs.YthkfnmmbjoadbaaGreatDoor
open Go Go.SX

/-- A map with one element more, or another one. -/
structure PutR (l : List Val) (ks : List (List UInt8)) (key : List UInt8) (x : Val) (l' : List Val) (ks' : List (List UInt8)) : Prop where
  len : ks'.length = l'.length
  le : l'.length ≤ l.length + 1
  asc : Asc ks'
  mem : ∀ y ∈ l', y ∈ l ∨ y = x
  key : ∀ k ∈ ks', k ∈ ks ∨ k = key
theorem lex_tri : ∀ (a b : List UInt8), a < b ∨ a = b ∨ b < a
  | [], [] => .inr (.inl rfl)
  | [], y :: b => .inl (List.nil_lt_cons _ _)
  | x :: a, [] => .inr (.inr (List.nil_lt_cons _ _))
  | x :: a, y :: b => by
    rcases Nat.lt_trichotomy x.toNat y.toNat with h | h | h
    · exact .inl (List.cons_lt_cons_iff.2 (.inl (UInt8.lt_iff_toNat_lt.2 h)))
    · obtain rfl := UInt8.toNat_inj.1 h
      rcases lex_tri a b with k | k | k
      · exact .inl (List.cons_lt_cons_iff.2 (.inr ⟨rfl, k⟩))
      · exact .inr (.inl (by rw [k]))
      · exact .inr (.inr (List.cons_lt_cons_iff.2 (.inr ⟨rfl, k⟩)))
    · exact .inr (.inr (List.cons_lt_cons_iff.2 (.inl (UInt8.lt_iff_toNat_lt.2 h))))
theorem lex_ne {a b : List UInt8} (h : a ≠ b) : a < b ∨ b < a := by
  rcases lex_tri a b with k | k | k
  · exact .inl k
  · exact absurd k h
  · exact .inr k
theorem _root_.Go.SX.OwnAt.le {α : Type} {el size : Nat} {enc : α → List Value} {l : List α} {s : Slot} {A : Option Addr} {c : Nat} (h : OwnAt el size enc l s A c) : l.length ≤ c := by
  cases h with
  | nil b h => subst h; exact Nat.le_refl _
  | own b c rest h1 h2 => exact h2
theorem ins_len {α : Type} (l : List α) (i : Nat) (x : α) (h : i ≤ l.length) : (insAt l i x).length = l.length + 1 := by
  unfold insAt
  rw [List.length_append, List.length_take, List.length_cons, List.length_drop]
  omega
theorem ins_mem {α : Type} {l : List α} {i : Nat} {x z : α} (h : z ∈ insAt l i x) : z ∈ l ∨ z = x := by
  unfold insAt at h
  rcases List.mem_append.1 h with h | h
  · exact .inl (List.mem_of_mem_take h)
  · rcases List.mem_cons.1 h with h | h
    · exact .inr h
    · exact .inl (List.mem_of_mem_drop h)
theorem ins_asc {ks : List (List UInt8)} {i : Nat} {k : List UInt8} (hs : Asc ks) (h : At ks k i) (hno : ks[i]? ≠ some k) : Asc (insAt ks i k) := by
  unfold Asc insAt at *
  have hs' := hs
  rw [← List.take_append_drop i ks, List.pairwise_append] at hs'
  obtain ⟨h1, h2, h3⟩ := hs'
  refine List.pairwise_append.2 ⟨h1, List.pairwise_cons.2 ⟨fun b hb => ?_, h2⟩, fun a ha b hb => ?_⟩
  · obtain ⟨j, hj⟩ := List.mem_iff_getElem?.1 hb
    rw [List.getElem?_drop] at hj
    have h4 := h.hi (i + j) b (by omega) hj
    rcases Nat.eq_zero_or_pos j with h0 | h0
    · subst h0
      have hne : b ≠ k := fun e => hno (by rw [← e]; exact hj)
      rcases lex_ne hne with h5 | h5
      · exact absurd h5 h4
      · exact h5
    · have hi : i < ks.length := by have := (List.getElem?_eq_some_iff.1 hj).1; omega
      obtain ⟨c, hc⟩ : ∃ c, ks[i]? = some c := ⟨_, List.getElem?_eq_getElem hi⟩
      have h5 := h.hi i c (Nat.le_refl _) hc
      have h6 := Asc.lt hs hc hj (by omega)
      have hne : c ≠ k := fun e => hno (by rw [← e]; exact hc)
      rcases lex_ne hne with h7 | h7
      · exact absurd h7 h5
      · exact List.lt_trans h7 h6
  · have hak : a < k := by
      obtain ⟨j, hj⟩ := List.mem_iff_getElem?.1 ha
      rw [List.getElem?_take] at hj
      split at hj
      · rename_i hji; exact h.lo j a hji hj
      · cases hj
    rcases List.mem_cons.1 hb with rfl | hb
    · exact hak
    · exact h3 a ha b hb
structure Pt where
  b : Nat
  sK : Slot
  kA : Option Addr
  kc : Nat
  sV : Slot
  iA : Option Addr
  ic : Nat
theorem f_put (g : GH) (l : List Val) (iA : Option Addr) (ic : Nat) (ks : List (List UInt8)) (kA : Option Addr) (kc : Nat) (key : List UInt8) (x : Val) (hm : (Val.mk 5 0 [] l iA ic ks kA kc).Ok g) (hx : x.Ok g) (hlen : ks.length = l.length) (hl : l.length ≤ 100) (hs : Asc ks) :
    Tri Tryz.prog 32 [(Val.mk 5 0 [] l iA ic ks kA kc).val, .string (str key), x.val] g [] fun v g' m' => m' = [] ∧ ∃ l' iA' ic' ks' kA' kc', v = (Val.mk 5 0 [] l' iA' ic' ks' kA' kc').val ∧ (Val.mk 5 0 [] l' iA' ic' ks' kA' kc').Ok g' ∧ PutR l ks key x l' ks' := by
  obtain ⟨hi, hk, -, -, -, hit⟩ := hm
  obtain ⟨xk, xi, xt, xl, xA, xc, xs, xB, xd⟩ := x
  refine Tri.cok [.val (Val.mk 5 0 [] l iA ic ks kA kc).val, .val (.string (str key)), .val (Val.mk xk xi xt xl xA xc xs xB xd).val] Tryz.func32 rfl Tryz.ntmps32 rfl rfl ?_
  refine COK.seq (vcC_ok _ _ _ _ _ ?_)
  conv => whnf
  intro b3
  conv => whnf
  intro b5
  conv => whnf
  intro b6
  conv => whnf
  refine COK.seq (COK.cut (α := Pt) (fun y => [(1, .val (.string (str key))), (5, .own 0 0), (6, .own 1 0), (7, .own 2 0)]) (fun y => [⟨b5, .cells (Val.mk xk xi xt xl xA xc xs xB xd).cells 28 (0, 0)⟩, ⟨b6, .cells [.int .i64 0, .int .i64 0, .string ⟨#[]⟩, .slice none 0 0, .slice none 0 0] 28 (0, 0)⟩, ⟨y.b, .cells [.int .i64 5, .int .i64 0, .string ⟨#[]⟩, .slice y.iA l.length y.ic, .slice y.kA ks.length y.kc] 28 (0, 0)⟩, y.sK, y.sV]) (fun y _ => OwnAt 9 1 encK ks y.sK y.kA y.kc ∧ OwnAt 28 5 Val.cells l y.sV y.iA y.ic) ?_ ?_)
  · refine COK.draw [0] (by kernel_rfl) (by kernel_rfl) ?_
    conv => whnf
    refine OAnd.mk ?_ ?_
    · conv => whnf
      refine OOK.call [] rfl rfl rfl (by kernel_rfl) rfl (f_cloneS g kA kc ks hk (by omega)) (by decide) rfl ?_
      rintro v_ g1 m_ hg1 ⟨sK, kA', kc', hOK, rfl, rfl⟩
      conv => whnf
      refine OAnd.mk ⟨rfl, rfl, rfl, trivial⟩ ?_
      conv => whnf
      refine OAnd.mk ?_ ?_
      · conv => whnf
        refine OOK.call [] rfl rfl rfl (by kernel_rfl) rfl (f_cloneV g1 iA ic l (hi.mono hg1) (by omega)) (by decide) rfl ?_
        rintro v_ g2 m_ hg2 ⟨sV, iA', ic', hOV, rfl, rfl⟩
        conv => whnf
        refine OAnd.mk ⟨rfl, rfl, rfl, trivial⟩ ?_
        conv => whnf
        intro b7
        conv => whnf
        refine OAnd.mk ⟨rfl, rfl, rfl, trivial⟩ ?_
        conv => whnf
        refine OAnd.mk ⟨rfl, rfl, rfl, trivial⟩ ?_
        conv => whnf
        exact ⟨⟨b7, sK, kA', kc', sV, iA', ic'⟩, [1, 2, 5, 3, 4], Sub.of (by decide) rfl ⟨rfl, rfl, rfl, rfl, trivial⟩, hOK, hOV⟩
      · skip
        conv => whnf
        intro b7
        conv => whnf
        refine OAnd.mk ⟨rfl, rfl, rfl, trivial⟩ ?_
        conv => whnf
        refine OOK.call [] rfl rfl rfl (by kernel_rfl) rfl (f_cloneV g1 iA ic l (hi.mono hg1) (by omega)) (by decide) rfl ?_
        rintro v_ g2 m_ hg2 ⟨sV, iA', ic', hOV, rfl, rfl⟩
        conv => whnf
        refine OAnd.mk ⟨rfl, rfl, rfl, trivial⟩ ?_
        conv => whnf
        refine OAnd.mk ⟨rfl, rfl, rfl, trivial⟩ ?_
        conv => whnf
        exact ⟨⟨b7, sK, kA', kc', sV, iA', ic'⟩, [1, 2, 4, 3, 5], Sub.of (by decide) rfl ⟨rfl, rfl, rfl, rfl, trivial⟩, hOK, hOV⟩
    · skip
      conv => whnf
      intro b7
      conv => whnf
      refine OAnd.mk ⟨rfl, rfl, rfl, trivial⟩ ?_
      conv => whnf
      refine OOK.call [] rfl rfl rfl (by kernel_rfl) rfl (f_cloneS g kA kc ks hk (by omega)) (by decide) rfl ?_
      rintro v_ g1 m_ hg1 ⟨sK, kA', kc', hOK, rfl, rfl⟩
      conv => whnf
      refine OAnd.mk ⟨rfl, rfl, rfl, trivial⟩ ?_
      conv => whnf
      refine OOK.call [] rfl rfl rfl (by kernel_rfl) rfl (f_cloneV g1 iA ic l (hi.mono hg1) (by omega)) (by decide) rfl ?_
      rintro v_ g2 m_ hg2 ⟨sV, iA', ic', hOV, rfl, rfl⟩
      conv => whnf
      refine OAnd.mk ⟨rfl, rfl, rfl, trivial⟩ ?_
      conv => whnf
      refine OAnd.mk ⟨rfl, rfl, rfl, trivial⟩ ?_
      conv => whnf
      exact ⟨⟨b7, sK, kA', kc', sV, iA', ic'⟩, [1, 2, 3, 4, 5], Sub.of (by decide) rfl ⟨rfl, rfl, rfl, rfl, trivial⟩, hOK, hOV⟩
  rintro ⟨b7, sK, kA', kc', sV, iA', ic'⟩ g2 hg2 ⟨hOK, hOV⟩
  simp only at hOK hOV
  dsimp only
  refine COK.seq (vcC_ok _ _ _ _ _ ?_)
  conv => whnf
  refine OOK.call [3] rfl rfl rfl (by kernel_rfl) rfl (f_bin g2 [sK] kA' kc' ks key (hOK.in_ 0 rfl) (by omega) hs) (by decide) rfl ?_
  rintro v_ g3 m_ hg3 ⟨rfl, i, bb, rfl, hAt, hbb⟩
  conv => whnf
  refine COK.seq (vcC_ok _ _ _ _ _ ?_)
  conv => whnf
  refine ⟨fun q => ?_, fun q => ?_⟩
  · have hik := hbb.1 q
    have hil : i < l.length := by rw [← hlen]; exact (List.getElem?_eq_some_iff.1 hik).1
    obtain ⟨y, hy⟩ : ∃ y, l[i]? = some y := ⟨_, List.getElem?_eq_getElem hil⟩
    obtain ⟨bV, rest, rfl, rfl, hVl, hVc⟩ := hOV.live hil
    conv => whnf
    refine ⟨⟨by omega, by omega⟩, ?_⟩
    conv => whnf
    refine OOK.storeElt (l := l) (x := y) (rest := rest) Val.len 4 (Val.mk xk xi xt xl xA xc xs xB xd) (k := i) (j := 0) rfl rfl rfl rfl rfl rfl rfl hy ?_ (by show 0 + 5 ≤ 5; omega) ?_
    · have hyl := Val.len y
      show _ = _ ++ (Val.mk xk xi xt xl xA xc xs xB xd).cells ++ y.cells.drop (0 + 5)
      rw [List.drop_of_length_le (by omega)]
      simp
    conv => whnf
    refine .rowF 3 hOK rfl fun g4 hg4 hrK => ?_
    refine .freeze 4 rfl rfl fun g5 hg5 hbV => ?_
    have hm : g.le g5 := (((hg2.trans hg3).trans hg4).trans hg5)
    have hset : ∀ z ∈ l.set i (Val.mk xk xi xt xl xA xc xs xB xd), z ∈ l ∨ z = Val.mk xk xi xt xl xA xc xs xB xd := fun z hz => List.mem_or_eq_of_mem_set hz
    refine .mk ⟨_, [], _, rfl, by decide, rfl, trivial, rfl, l.set i (Val.mk xk xi xt xl xA xc xs xB xd), some ⟨bV, 0, none⟩, ic', ks, kA', kc', by rw [Val.val, Val.cells, List.length_set] <;> rfl, .mk (row_of (rest := rest) (el := 28) hbV) (hrK.mono hg5) (by rw [List.length_set]; omega) ?_ ⟨by rw [List.length_set]; omega, by omega⟩ ?_, ?_⟩
    · exact hOK.le
    · intro z hz
      rcases hset z hz with h | rfl
      · exact (hit z h).mono hm
      · exact hx.mono hm
    · exact ⟨by rw [List.length_set]; exact hlen, by rw [List.length_set]; omega, hs, hset, fun k hk => .inl hk⟩
  · conv => whnf
    have hik : i ≤ ks.length := hAt.le
    have hno : ks[i]? ≠ some key := fun h => by rw [hbb.2 h] at q; cases q
    refine COK.seq (COK.cut (α := Option Addr × Nat) (fun y => [(5, .own 0 0), (6, .own 1 0), (7, .own 2 0), (8, .val (.int .i64 i))]) (fun y => [⟨b5, .cells (Val.mk xk xi xt xl xA xc xs xB xd).cells 28 (0, 0)⟩, ⟨b6, .cells [.int .i64 0, .int .i64 0, .string ⟨#[]⟩, .slice none 0 0, .slice none 0 0] 28 (0, 0)⟩, ⟨b7, .cells [.int .i64 5, .int .i64 0, .string ⟨#[]⟩, .slice iA' l.length ic', .slice y.1 (ks.length + 1) y.2] 28 (0, 0)⟩, sV]) (fun y g => Row g encK y.1 (insAt ks i key) ∧ ks.length + 1 ≤ y.2) ?_ ?_)
    · refine vcC_ok _ _ _ _ _ ?_
      conv => whnf
      intro nb
      conv => whnf
      cases hOK with
      | nil b0 h0 =>
        subst h0
        obtain rfl : i = 0 := by simpa using hik
        refine OOK.call [5] rfl rfl rfl (by kernel_rfl) rfl (f_insS0 g3 none nb key) (by decide) rfl ?_
        rintro v_ g4 m_ hg4 ⟨b', c', s0, rfl, hr', hc', rfl⟩
        conv => whnf
        exact ⟨(some ⟨b', 0, none⟩, c'), [0, 1, 2, 4], Sub.of (by decide) rfl ⟨rfl, rfl, rfl, rfl, trivial⟩, hr', hc'⟩
      | own b0 _ rest h1 h2 =>
        refine OOK.call [3, 5] rfl rfl rfl (by kernel_rfl) rfl (f_insS g3 b0 nb kc' ks rest i key hik (by omega) h1 h2) (by decide) rfl ?_
        rintro v_ g4 m_ hg4 ⟨b', c', s0, s1, rfl, hr', hc', rfl⟩
        conv => whnf
        exact ⟨(some ⟨b', 0, none⟩, c'), [0, 1, 2, 4], Sub.of (by decide) rfl ⟨rfl, rfl, rfl, rfl, trivial⟩, hr', hc'⟩
    rintro ⟨kA2, kc2⟩ g4 hg4 ⟨hrK, hcK⟩
    simp only at hrK hcK
    dsimp only
    have hil : i ≤ l.length := by omega
    refine COK.seq (COK.cut (α := Option Addr × Nat) (fun y => [(6, .own 0 0), (7, .own 1 0)]) (fun y => [⟨b6, .cells [.int .i64 0, .int .i64 0, .string ⟨#[]⟩, .slice none 0 0, .slice none 0 0] 28 (0, 0)⟩, ⟨b7, .cells [.int .i64 5, .int .i64 0, .string ⟨#[]⟩, .slice y.1 (l.length + 1) y.2, .slice kA2 (ks.length + 1) kc2] 28 (0, 0)⟩]) (fun y g => Row g Val.cells y.1 (insAt l i (Val.mk xk xi xt xl xA xc xs xB xd)) ∧ l.length + 1 ≤ y.2) ?_ ?_)
    · refine vcC_ok _ _ _ _ _ ?_
      conv => whnf
      intro nb
      conv => whnf
      cases hOV with
      | nil b0 h0 =>
        subst h0
        obtain rfl : i = 0 := by simpa using hil
        refine OOK.call [4] rfl rfl rfl (by kernel_rfl) rfl (f_insV0 g4 none nb (Val.mk xk xi xt xl xA xc xs xB xd)) (by decide) rfl ?_
        rintro v_ g5 m_ hg5 ⟨b', c', s0, rfl, hr', hc', rfl⟩
        conv => whnf
        exact ⟨(some ⟨b', 0, none⟩, c'), [1, 2], Sub.of (by decide) rfl ⟨rfl, rfl, trivial⟩, hr', hc'⟩
      | own b0 _ rest h1 h2 =>
        refine OOK.call [3, 4] rfl rfl rfl (by kernel_rfl) rfl (f_insV g4 b0 nb ic' l rest i (Val.mk xk xi xt xl xA xc xs xB xd) hil (by omega) h1 h2) (by decide) rfl ?_
        rintro v_ g5 m_ hg5 ⟨b', c', s0, s1, rfl, hr', hc', rfl⟩
        conv => whnf
        exact ⟨(some ⟨b', 0, none⟩, c'), [1, 2], Sub.of (by decide) rfl ⟨rfl, rfl, trivial⟩, hr', hc'⟩
    rintro ⟨iA2, ic2⟩ g5 hg5 ⟨hrV, hcV⟩
    simp only at hrV hcV
    refine vcC_ok _ _ _ _ _ ?_
    conv => whnf
    have hm : g.le g5 := (((hg2.trans hg3).trans hg4).trans hg5)
    have hl1 : (insAt l i (Val.mk xk xi xt xl xA xc xs xB xd)).length = l.length + 1 := ins_len l i _ hil
    have hl2 : (insAt ks i key).length = ks.length + 1 := ins_len ks i _ hik
    refine .mk ⟨_, [], _, rfl, by decide, rfl, trivial, rfl, insAt l i (Val.mk xk xi xt xl xA xc xs xB xd), iA2, ic2, insAt ks i key, kA2, kc2, by rw [Val.val, Val.cells, hl1, hl2] <;> rfl, .mk hrV (hrK.mono hg5) (by rw [hl1]; exact hcV) (by rw [hl2]; exact hcK) ⟨by rw [hl1]; omega, by rw [hl2]; omega⟩ ?_, ⟨by rw [hl1, hl2, hlen], by rw [hl1] <;> exact Nat.le_refl _, ins_asc hs hAt hno, fun z hz => ins_mem hz, fun z hz => ins_mem hz⟩⟩
    intro z hz
    rcases ins_mem hz with h | rfl
    · exact (hit z h).mono hm
    · exact hx.mono hm
end Go.Proofs.YthkfnmmbjoadbaaGreatDoor
/- WholeTexts: a payload is drawn. -/
set_option linter.unusedVariables false
set_option linter.unusedSimpArgs false
set_option maxRecDepth 100000
namespace Go.Proofs.YthkfnmmbjoadbaaGreatDoor
open Go Go.SX

theorem Val.leaf (g : GH) (k i : Int) (t : List UInt8) : (Val.mk k i t [] none 0 [] none 0).Ok g :=
  .mk (fun h => absurd rfl h) (fun h => absurd rfl h) (Nat.le_refl _) (Nat.le_refl _) ⟨Nat.zero_le _, Nat.zero_le _⟩ (fun x hx => by simp at hx)
theorem Val.leaf_t (k i : Int) (t : List UInt8) : (Val.mk k i t [] none 0 [] none 0).t = .mk k i t [] [] := Val.t_mk ..
structure Ls where
  h : Hd
  l : List Val
  s : Slot
  A : Option Addr
  c : Nat
structure Ms where
  i : Nat
  h : Hd
  l : List Val
  iA : Option Addr
  ic : Nat
  ks : List (List UInt8)
  kA : Option Addr
  kc : Nat
structure Ms.ok (d : Nat) (g : GH) (y : Ms) : Prop where
  h : y.h.ok g
  m : (Val.mk 5 0 [] y.l y.iA y.ic y.ks y.kA y.kc).Ok g
  len : y.ks.length = y.l.length
  asc : Asc y.ks
  k6 : ∀ k ∈ y.ks, k.length ≤ 6
  wf : ∀ x ∈ y.l, WF d x.t
def DrawnR (d : Nat) (hB : Nat) (v : Value) (g' : GH) (m' : Mem) : Prop := ∃ (x : Val) (h' : Hd), v = x.val ∧ x.Ok g' ∧ WF d x.t ∧ h'.ok g' ∧ m' = [h'.slot hB]
set_option maxHeartbeats 4000000 in
theorem f_value (hB : Nat) (d : Nat) : ∀ (g : GH) (h : Hd), h.ok g → d ≤ 100 → Tri Tryz.prog 5 [.pointer (some ⟨hB, 0, none⟩), .int .i64 (d : Int)] g [h.slot hB] (DrawnR d hB) := by
  induction d using Nat.strongRecOn with
  | ind d ih =>
    intro g h hh hd
    unfold DrawnR
    refine Tri.cok [.own 0 0, .val (.int .i64 (d : Int))] Tryz.func5 rfl Tryz.ntmps5 rfl rfl ?_
    refine COK.seq (vcC_ok _ _ _ _ _ ?_)
    conv => whnf
    intro rb
    conv => whnf
    refine COK.seq (vcC_ok _ _ _ _ _ ?_)
    conv => whnf
    refine OOK.call [0] rfl rfl rfl (by kernel_rfl) rfl (hand_n g hB h 8 hh (by omega) (by omega)) (by decide) rfl ?_
    rintro v_ g1 m_ hg1 ⟨k0, h1, rfl, k00, k01, hnh1, hh1, rfl⟩
    conv => whnf
    refine COK.seq (COK.cut (α := Int) (fun k => [(0, .own 0 0), (1, .val (.int .i64 (d : Int))), (4, .own 1 0), (5, .val (.int .i64 k))]) (fun k => [h1.slot hB, ⟨rb, .cells [.int .i64 0, .int .i64 0, .string ⟨#[]⟩, .slice none 0 0, .slice none 0 0] 28 (0, 0)⟩]) (fun k _ => 0 ≤ k ∧ (d = 0 → k < 4)) ?_ ?_)
    · refine vcC_ok _ _ _ _ _ ?_
      conv => whnf
      refine ⟨fun q => ?_, fun q => ?_⟩
      · conv => whnf
        have hr := tmod_rng k0 4 k00 (by decide)
        exact ⟨k0.tmod 4, [0, 1], Sub.of (by decide) rfl ⟨rfl, rfl, rfl, rfl, trivial⟩, hr.1, fun _ => by omega⟩
      · conv => whnf
        have hr := of_decide_eq_false q
        exact ⟨k0, [0, 1], Sub.of (by decide) rfl ⟨rfl, rfl, rfl, rfl, trivial⟩, k00, fun _ => by omega⟩
    rintro k g2 hg2 ⟨hk0, hk⟩
    have hh2 := hh1.mono hg2
    refine COK.seq ?_
    refine COK.seq (vcC_ok _ _ _ _ _ ?_)
    conv => whnf
    refine COK.block ?_
    refine COK.seq (vcC_ok _ _ _ _ _ ?_)
    conv => whnf
    refine COK.cond rfl (fun q0 => ?_) (fun q0 => ?_)
    · refine vcC_ok _ _ _ _ _ ?_
      conv => whnf
      exact .mk ⟨_, [0], _, rfl, by decide, rfl, ⟨rfl, trivial⟩, .mk 0 0 [] [] none 0 [] none 0, h1, rfl, Val.leaf _ _ _ _, by rw [Val.leaf_t]; exact .null d, hh2, rfl⟩
    refine COK.seq (vcC_ok _ _ _ _ _ ?_)
    conv => whnf
    refine COK.cond rfl (fun q1 => ?_) (fun q1 => ?_)
    · refine vcC_ok _ _ _ _ _ ?_
      conv => whnf
      refine OOK.call [0] rfl rfl rfl (by kernel_rfl) rfl (hand_n g2 hB h1 2 hh2 (by omega) (by omega)) (by decide) rfl ?_
      rintro v_ g3 m_ hg3 ⟨u, h3, rfl, u0, u1, hnh3, hh3, rfl⟩
      conv => whnf
      refine OOK.call [] rfl rfl rfl (by kernel_rfl) rfl (f_lbool g3 (u == 1)) (by decide) rfl ?_
      rintro v_ g4 m_ hg4 ⟨rfl, rfl⟩
      conv => whnf
      refine .mk ⟨_, [0], _, rfl, by decide, rfl, ⟨rfl, trivial⟩, .mk 1 (if (u == 1) = true then 1 else 0) [] [] none 0 [] none 0, h3, rfl, Val.leaf _ _ _ _, ?_, hh3.mono hg4, rfl⟩
      rw [Val.leaf_t]
      exact .bool d _ (by split <;> simp)
    refine COK.seq (vcC_ok _ _ _ _ _ ?_)
    conv => whnf
    refine COK.cond rfl (fun q2 => ?_) (fun q2 => ?_)
    · refine vcC_ok _ _ _ _ _ ?_
      conv => whnf
      refine OOK.call [0] rfl rfl rfl (by kernel_rfl) rfl (f_word g2 hB h1 hh2) (by decide) rfl ?_
      rintro v_ g3 m_ hg3 ⟨u, h3, rfl, u0, u1, hh3, rfl⟩
      conv => whnf
      refine OOK.call [] rfl rfl rfl (by kernel_rfl) rfl (f_lint g3 u) (by decide) rfl ?_
      rintro v_ g4 m_ hg4 ⟨rfl, rfl⟩
      conv => whnf
      exact .mk ⟨_, [0], _, rfl, by decide, rfl, ⟨rfl, trivial⟩, .mk 2 u [] [] none 0 [] none 0, h3, rfl, Val.leaf _ _ _ _, by rw [Val.leaf_t]; exact .int d u u0 u1, hh3.mono hg4, rfl⟩
    refine COK.seq (vcC_ok _ _ _ _ _ ?_)
    conv => whnf
    refine COK.cond rfl (fun q3 => ?_) (fun q3 => ?_)
    · refine vcC_ok _ _ _ _ _ ?_
      conv => whnf
      refine OOK.call [0] rfl rfl rfl (by kernel_rfl) rfl (f_chars g2 hB h1 hh2) (by decide) rfl ?_
      rintro v_ g3 m_ hg3 ⟨u, h3, rfl, u0, hh3, rfl⟩
      conv => whnf
      refine OOK.call [] rfl rfl rfl (by kernel_rfl) rfl (f_lstr g3 u) (by decide) rfl ?_
      rintro v_ g4 m_ hg4 ⟨rfl, rfl⟩
      conv => whnf
      exact .mk ⟨_, [0], _, rfl, by decide, rfl, ⟨rfl, trivial⟩, .mk 3 0 u [] none 0 [] none 0, h3, rfl, Val.leaf _ _ _ _, by rw [Val.leaf_t]; exact .text d u u0, hh3.mono hg4, rfl⟩
    have hd1 : 1 ≤ d := by
      rcases Nat.eq_zero_or_pos d with h | h
      · have h1 := hk h
        have := of_decide_eq_false q0
        simp only [beq_eq_false_iff_ne] at q0 q1 q2 q3
        omega
      · exact h
    have hw1 : IntKind.i64.wrap ((d : Int) - 1) = ((d - 1 : Nat) : Int) := by rw [i64_in (by omega) (by omega)]; omega
    refine COK.seq (COK.cut (α := Bool) (fun x => [(0, .own 0 0), (1, .val (.int .i64 (d : Int))), (4, .own 1 0), (35, .val (.bool x))]) (fun _ => [h1.slot hB, ⟨rb, .cells [.int .i64 0, .int .i64 0, .string ⟨#[]⟩, .slice none 0 0, .slice none 0 0] 28 (0, 0)⟩]) (fun _ _ => True) ?_ ?_)
    · refine vcC_ok _ _ _ _ _ ?_
      conv => whnf
      refine ⟨fun q4 => ?_, fun q4 => ?_⟩
      · conv => whnf
        exact ⟨k == 4, [0, 1], Sub.of (by decide) rfl ⟨rfl, rfl, rfl, rfl, trivial⟩, trivial⟩
      · conv => whnf
        exact ⟨k == 5, [0, 1], Sub.of (by decide) rfl ⟨rfl, rfl, rfl, rfl, trivial⟩, trivial⟩
    rintro xq g3 hg3 -
    have hh3 := hh2.mono hg3
    refine COK.cond rfl (fun q4 => ?_) (fun q4 => ?_)
    · refine COK.seq (vcC_ok _ _ _ _ _ ?_)
      conv => whnf
      refine COK.dummy 0 ?_
      refine COK.seq (COK.cut (α := Ls) (fun y => [(0, .own 0 0), (1, .val (.int .i64 (d : Int))), (4, .own 1 0), (6, .val (.slice y.A y.l.length y.c))])
        (fun y => [y.h.slot hB, ⟨rb, .cells [.int .i64 0, .int .i64 0, .string ⟨#[]⟩, .slice none 0 0, .slice none 0 0] 28 (0, 0)⟩, y.s]) (fun y g => y.h.ok g ∧ OwnAt 28 5 Val.cells y.l y.s y.A y.c ∧ (∀ x ∈ y.l, x.Ok g ∧ WF (d - 1) x.t) ∧ y.l.length ≤ 4) ?_ ?_)
      · refine COK.seq (vcC_ok _ _ _ _ _ ?_)
        conv => whnf
        refine OOK.call [0] rfl rfl rfl (by kernel_rfl) rfl (hand_n g3 hB h1 5 hh3 (by omega) (by omega)) (by decide) rfl ?_
        rintro v_ g4 m_ hg4 ⟨u, h4, rfl, u0, u1, hnh4, hh4, rfl⟩
        conv => whnf
        refine COK.block ?_
        refine COK.loop (α := Ls) (fun y => [(0, .own 0 0), (1, .val (.int .i64 (d : Int))), (4, .own 1 0), (6, .val (.slice y.A y.l.length y.c)), (39, .val (.int .i64 u)), (40, .val (.int .i64 y.l.length))])
          (fun y => [y.h.slot hB, ⟨rb, .cells [.int .i64 0, .int .i64 0, .string ⟨#[]⟩, .slice none 0 0, .slice none 0 0] 28 (0, 0)⟩, y.s]) (fun y g => y.h.ok g ∧ OwnAt 28 5 Val.cells y.l y.s y.A y.c ∧ (∀ x ∈ y.l, x.Ok g ∧ WF (d - 1) x.t) ∧ (y.l.length : Int) ≤ u) (fun y => (u - y.l.length).toNat)
          ⟨h4, [], ⟨0, .dead⟩, none, 0⟩ [0, 1, 2] (Sub.of (by decide) rfl ⟨rfl, rfl, rfl, rfl, rfl, rfl, trivial⟩) ⟨hh4, .nil _ rfl, (fun x hx => by simp at hx), u0⟩ ?_
        rintro ⟨h5, l, so, A, c⟩ g5 hg5 ⟨hh5, hO, hl, hlu⟩
        simp only at hh5 hO hl hlu
        dsimp only
        refine vcC_ok _ _ _ _ _ ?_
        conv => whnf
        refine ⟨fun q5 => ?_, fun q5 => ?_⟩
        · have hlt : (l.length : Int) < u := of_decide_eq_true q5
          conv => whnf
          rw [hw1]
          refine OOK.call [0] rfl rfl rfl (by kernel_rfl) rfl (ih (d - 1) (by omega) g5 h5 hh5 (by omega)) (by decide) rfl ?_
          rintro v_ g6 m_ hg6 ⟨⟨xk, xi, xt, xl, xA, xc, xs, xB, xd⟩, h6, rfl, hxo, hxw, hh6, rfl⟩
          conv => whnf
          intro vb
          conv => whnf
          refine OOK.appendRowB (Val.mk xk xi xt xl xA xc xs xB xd) 2 Val.len rfl rfl rfl rfl (.inl ⟨_, rfl⟩) rfl (size := 5) (bytes := 80) rfl rfl rfl (by decide) rfl rfl hO
            (Src.own (i := 3) (q := 0) (cs := (Val.mk xk xi xt xl xA xc xs xB xd).cells) (t := 28) (fr := (0, 0)) rfl rfl (fun j v hj => by simpa using hj)) (Val.one _) (by show (2 * (l.length + 1) + 1000) * 80 ≤ _; omega) ?_
          intro s' A' c' hO'
          conv => whnf
          refine ⟨⟨h6, l ++ [Val.mk xk xi xt xl xA xc xs xB xd], s', A', c'⟩, [0, 1, 4], Sub.of (by decide) rfl ⟨rfl, rfl, rfl, ?_, rfl, int_eq ?_, trivial⟩, ⟨hh6, hO', ?_, ?_⟩, ?_⟩
          · show Value.slice A' (l.length + 1) c' = Value.slice A' (l ++ [_]).length c'
            rw [List.length_append]; rfl
          · rw [List.length_append]
            exact i64_in (by omega) (by omega)
          · intro x hx
            rcases List.mem_append.1 hx with h | h
            · exact ⟨(hl x h).1.mono hg6, (hl x h).2⟩
            · obtain rfl := List.mem_singleton.1 h; exact ⟨hxo, hxw⟩
          · show ((l ++ [_]).length : Int) ≤ u
            rw [List.length_append]
            simp only [List.length_cons, List.length_nil]
            omega
          · show (u - (l ++ [_]).length).toNat < (u - l.length).toNat
            rw [List.length_append]
            simp only [List.length_cons, List.length_nil]
            omega
        · conv => whnf
          have hlt : ¬ (l.length : Int) < u := of_decide_eq_false q5
          exact ⟨⟨h5, l, so, A, c⟩, [0, 1, 2], Sub.of (by decide) rfl ⟨rfl, rfl, rfl, rfl, trivial⟩, hh5, hO, hl, by show l.length ≤ 4; omega⟩
      rintro ⟨h5, l, so, A, c⟩ g5 hg5 ⟨hh5, hO, hl, hl4⟩
      simp only at hh5 hO hl hl4
      dsimp only
      refine COK.rowF 2 hO rfl fun g6 hg6 hr => ?_
      refine vcC_ok _ _ _ _ _ ?_
      conv => whnf
      refine OOK.call [] rfl rfl rfl (by kernel_rfl) rfl (f_llist g6 l A c) (by decide) rfl ?_
      rintro v_ g7 m_ hg7 ⟨rfl, rfl⟩
      conv => whnf
      refine .mk ⟨_, [0], _, rfl, by decide, rfl, ⟨rfl, trivial⟩, .mk 4 0 [] l A c [] none 0, h5, rfl, .mk (hr.mono hg7) (fun h => absurd rfl h) hO.le (Nat.le_refl _) ⟨by omega, Nat.zero_le _⟩ (fun x hx => (hl x hx).1.mono (hg6.trans hg7)), ?_, hh5.mono (hg6.trans hg7), rfl⟩
      rw [Val.t_mk]
      obtain ⟨d', rfl⟩ : ∃ d', d = d' + 1 := ⟨d - 1, by omega⟩
      refine .list d' _ (by rw [List.length_map]; exact hl4) fun x hx => ?_
      obtain ⟨y, hy, rfl⟩ := List.mem_map.1 hx
      exact (hl y hy).2
    · refine vcC_ok _ _ _ _ _ ?_
      conv => whnf
      refine COK.seq (vcC_ok _ _ _ _ _ ?_)
      conv => whnf
      intro b7
      conv => whnf
      refine COK.seq (COK.cut (α := Ms) (fun y => [(0, .own 0 0), (1, .val (.int .i64 (d : Int))), (4, .own 1 0), (7, .own 2 0)])
        (fun y => [y.h.slot hB, ⟨rb, .cells [.int .i64 0, .int .i64 0, .string ⟨#[]⟩, .slice none 0 0, .slice none 0 0] 28 (0, 0)⟩, ⟨b7, .cells (Val.mk 5 0 [] y.l y.iA y.ic y.ks y.kA y.kc).cells 28 (0, 0)⟩]) (fun y g => y.ok (d - 1) g ∧ y.l.length ≤ 4) ?_ ?_)
      · refine COK.seq (vcC_ok _ _ _ _ _ ?_)
        conv => whnf
        refine OOK.call [0] rfl rfl rfl (by kernel_rfl) rfl (hand_n g3 hB h1 5 hh3 (by omega) (by omega)) (by decide) rfl ?_
        rintro v_ g4 m_ hg4 ⟨u, h4, rfl, u0, u1, hnh4, hh4, rfl⟩
        conv => whnf
        refine COK.block ?_
        refine COK.loop (α := Ms) (fun y => [(0, .own 0 0), (1, .val (.int .i64 (d : Int))), (4, .own 1 0), (7, .own 2 0), (54, .val (.int .i64 u)), (55, .val (.int .i64 y.i))])
          (fun y => [y.h.slot hB, ⟨rb, .cells [.int .i64 0, .int .i64 0, .string ⟨#[]⟩, .slice none 0 0, .slice none 0 0] 28 (0, 0)⟩, ⟨b7, .cells (Val.mk 5 0 [] y.l y.iA y.ic y.ks y.kA y.kc).cells 28 (0, 0)⟩]) (fun y g => y.ok (d - 1) g ∧ y.l.length ≤ y.i ∧ (y.i : Int) ≤ u) (fun y => (u - y.i).toNat)
          ⟨0, h4, [], none, 0, [], none, 0⟩ [0, 1, 2] (Sub.of (by decide) rfl ⟨rfl, rfl, rfl, rfl, rfl, rfl, trivial⟩) ⟨⟨hh4, .mk (fun h => absurd rfl h) (fun h => absurd rfl h) (Nat.le_refl _) (Nat.le_refl _) ⟨Nat.zero_le _, Nat.zero_le _⟩ (fun x hx => by simp at hx), rfl, List.Pairwise.nil, (fun x hx => by simp at hx), (fun x hx => by simp at hx)⟩, Nat.le_refl _, u0⟩ ?_
        rintro ⟨i, h5, l, iA, ic, ks, kA, kc⟩ g5 hg5 ⟨⟨hh5, hm, hlen, hasc, hk6, hwf⟩, hli, hiu⟩
        simp only at hh5 hm hlen hasc hk6 hwf hli hiu
        dsimp only
        refine vcC_ok _ _ _ _ _ ?_
        conv => whnf
        refine ⟨fun q5 => ?_, fun q5 => ?_⟩
        · have hlt : (i : Int) < u := of_decide_eq_true q5
          conv => whnf
          refine OOK.call [0] rfl rfl rfl (by kernel_rfl) rfl (f_chars g5 hB h5 hh5) (by decide) rfl ?_
          rintro v_ g6 m_ hg6 ⟨key, h6, rfl, hkey, hh6, rfl⟩
          conv => whnf
          refine COK.drawL [0] [] (by kernel_rfl) (by kernel_rfl) ?_
          conv => whnf
          rw [hw1]
          refine OAnd.mk ?_ ?_
          · conv => whnf
            conv => whnf
            refine OAnd.mk ⟨rfl, rfl, rfl, trivial⟩ ?_
            conv => whnf
            refine OOK.call [0] rfl rfl rfl (by kernel_rfl) rfl (ih (d - 1) (by omega) g6 h6 hh6 (by omega)) (by decide) rfl ?_
            rintro v_ g7 m_ hg7 ⟨x, h7, rfl, hxo, hxw, hh7, rfl⟩
            conv => whnf
            refine OAnd.mk ⟨rfl, rfl, rfl, trivial⟩ ?_
            conv => whnf
            refine OOK.call [] rfl rfl rfl (by kernel_rfl) rfl (f_put g7 l iA ic ks kA kc key x (hm.mono (hg6.trans hg7)) hxo hlen (by omega) hasc) (by decide) rfl ?_
            rintro v_ g8 m_ hg8 ⟨rfl, l', iA', ic', ks', kA', kc', rfl, hm', hP⟩
            conv => whnf
            refine OAnd.mk ⟨rfl, rfl, rfl, trivial⟩ ?_
            conv => whnf
            refine OAnd.mk ⟨rfl, rfl, rfl, trivial⟩ ?_
            conv => whnf
            refine ⟨⟨i + 1, h7, l', iA', ic', ks', kA', kc'⟩, [0, 1, 2], Sub.of (by decide) rfl ⟨rfl, rfl, rfl, rfl, rfl, int_eq (i64_in (by omega) (by omega)), trivial⟩, ⟨⟨hh7.mono hg8, hm', hP.len, hP.asc, ?_, ?_⟩, by have := hP.le; show l'.length ≤ i + 1; omega, by show ((i + 1 : Nat) : Int) ≤ u; omega⟩, by show (u - ((i + 1 : Nat) : Int)).toNat < (u - (i : Int)).toNat; omega⟩
            · intro k hk
              rcases hP.key k hk with h | rfl
              · exact hk6 k h
              · exact hkey
            · intro y hy
              rcases hP.mem y hy with h | rfl
              · exact hwf y h
              · exact hxw
          · skip
            conv => whnf
            refine OOK.call [0] rfl rfl rfl (by kernel_rfl) rfl (ih (d - 1) (by omega) g6 h6 hh6 (by omega)) (by decide) rfl ?_
            rintro v_ g7 m_ hg7 ⟨x, h7, rfl, hxo, hxw, hh7, rfl⟩
            conv => whnf
            refine OAnd.mk ⟨rfl, rfl, rfl, trivial⟩ ?_
            conv => whnf
            conv => whnf
            refine OAnd.mk ⟨rfl, rfl, rfl, trivial⟩ ?_
            conv => whnf
            refine OOK.call [] rfl rfl rfl (by kernel_rfl) rfl (f_put g7 l iA ic ks kA kc key x (hm.mono (hg6.trans hg7)) hxo hlen (by omega) hasc) (by decide) rfl ?_
            rintro v_ g8 m_ hg8 ⟨rfl, l', iA', ic', ks', kA', kc', rfl, hm', hP⟩
            conv => whnf
            refine OAnd.mk ⟨rfl, rfl, rfl, trivial⟩ ?_
            conv => whnf
            refine OAnd.mk ⟨rfl, rfl, rfl, trivial⟩ ?_
            conv => whnf
            refine ⟨⟨i + 1, h7, l', iA', ic', ks', kA', kc'⟩, [0, 1, 2], Sub.of (by decide) rfl ⟨rfl, rfl, rfl, rfl, rfl, int_eq (i64_in (by omega) (by omega)), trivial⟩, ⟨⟨hh7.mono hg8, hm', hP.len, hP.asc, ?_, ?_⟩, by have := hP.le; show l'.length ≤ i + 1; omega, by show ((i + 1 : Nat) : Int) ≤ u; omega⟩, by show (u - ((i + 1 : Nat) : Int)).toNat < (u - (i : Int)).toNat; omega⟩
            · intro k hk
              rcases hP.key k hk with h | rfl
              · exact hk6 k h
              · exact hkey
            · intro y hy
              rcases hP.mem y hy with h | rfl
              · exact hwf y h
              · exact hxw
        · conv => whnf
          have hlt : ¬ (i : Int) < u := of_decide_eq_false q5
          exact ⟨⟨i, h5, l, iA, ic, ks, kA, kc⟩, [0, 1, 2], Sub.of (by decide) rfl ⟨rfl, rfl, rfl, rfl, trivial⟩, ⟨hh5, hm, hlen, hasc, hk6, hwf⟩, by show l.length ≤ 4; omega⟩
      rintro ⟨i, h5, l, iA, ic, ks, kA, kc⟩ g5 hg5 ⟨⟨hh5, hm, hlen, hasc, hk6, hwf⟩, hl4⟩
      simp only at hh5 hm hlen hasc hk6 hwf hl4
      refine vcC_ok _ _ _ _ _ ?_
      conv => whnf
      refine .mk ⟨_, [0], _, rfl, by decide, rfl, ⟨rfl, trivial⟩, .mk 5 0 [] l iA ic ks kA kc, h5, rfl, hm, ?_, hh5, rfl⟩
      rw [Val.t_mk]
      obtain ⟨d', rfl⟩ : ∃ d', d = d' + 1 := ⟨d - 1, by omega⟩
      refine .map d' _ ks (by rw [List.length_map]; exact hlen) (by rw [List.length_map]; exact hl4) hasc hk6 fun x hx => ?_
      obtain ⟨y, hy, rfl⟩ := List.mem_map.1 hx
      exact hwf y hy
end Go.Proofs.YthkfnmmbjoadbaaGreatDoor
