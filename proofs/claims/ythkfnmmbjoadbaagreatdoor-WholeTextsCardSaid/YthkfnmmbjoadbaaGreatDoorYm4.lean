/- WholeTexts: vtext's Quote. -/
import Derived.Test.YthkfnmmbjoadbaaGreatDoorYm3
set_option linter.unusedVariables false
set_option linter.unusedSimpArgs false
set_option maxRecDepth 100000
namespace Go.Proofs.YthkfnmmbjoadbaaGreatDoor
open Go Go.SX

theorem dig_at : ∀ n : Fin 16, byteAt (⟨#[48, 49, 50, 51, 52, 53, 54, 55, 56, 57, 97, 98, 99, 100, 101, 102]⟩ : ByteArray) n.val = (dig n.val).toNat := by decide +kernel
theorem f_vquote (g : GH) (s : List UInt8) (hs : s.length ≤ 1000) : Tri Tryz.prog 79 [.string (str s)] g [] fun v g' m' => v = .string (str (quoteT s)) ∧ m' = [] := by
  refine Tri.cok [.val (.string (str s))] Tryz.func79 rfl Tryz.ntmps79 rfl rfl ?_
  refine COK.seq (vcC_ok _ _ _ _ _ ?_)
  conv => whnf
  refine COK.seq (vcC_ok _ _ _ _ _ ?_)
  conv => whnf
  intro b0
  conv => whnf
  refine COK.seq (COK.cut (α := Ps) (fun y => [(3, .val (.slice y.A ([34] ++ s.flatMap byteT).length y.c))]) (fun y => [y.s]) (fun y _ => OwnAt 5 1 encB ([34] ++ s.flatMap byteT) y.s y.A y.c) ?_ ?_)
  · refine vcC_ok _ _ _ _ _ ?_
    conv => whnf
    refine COK.loop (α := Ps) (fun y => [(0, .val (.string (str s))), (3, .val (.slice y.A ([34] ++ (s.take y.i).flatMap byteT).length y.c)), (8, .val (.int .i64 s.length)), (9, .val (.int .i64 y.i))]) (fun y => [y.s]) (fun y _ => y.i ≤ s.length ∧ OwnAt 5 1 encB ([34] ++ (s.take y.i).flatMap byteT) y.s y.A y.c) (fun y => s.length - y.i) ⟨0, ⟨b0, .cells [.int .u8 34] 5 (0, 0)⟩, some ⟨b0, 0, none⟩, 1⟩ [0] (Sub.of (by decide) rfl ⟨rfl, rfl, int_eq (by rw [str_size]), rfl, trivial⟩) ⟨Nat.zero_le _, .own b0 1 [] rfl (Nat.le_refl _)⟩ ?_
    rintro ⟨i, so, A, c⟩ g1 hg1 ⟨hil, hO⟩
    simp only at hil hO
    dsimp only
    have hbl := bytes_len (s.take i)
    rw [List.length_take] at hbl
    obtain ⟨w, hw⟩ : ∃ w, w = [34] ++ (s.take i).flatMap byteT := ⟨_, rfl⟩
    have hwl : w.length ≤ 4001 := by rw [hw, List.length_append]; simp only [List.length_cons, List.length_nil]; omega
    rw [← hw] at hO ⊢
    by_cases hlt : i < s.length
    · obtain ⟨x, hx⟩ : ∃ x, s[i]? = some x := ⟨_, List.getElem?_eq_getElem hlt⟩
      have hnext : w ++ byteT x = [34] ++ (s.take (i + 1)).flatMap byteT := by
        rw [hw, take_get hx, List.flatMap_append, ← List.append_assoc]
        simp only [List.flatMap_cons, List.flatMap_nil, List.append_nil]
      have hbc := byteAt_str hx
      have hlx := x.toNat_lt
      refine vcC_ok _ _ _ _ _ ?_
      conv => whnf
      refine ⟨fun _ => ?_, fun h1 => absurd (of_decide_eq_false h1) (by omega)⟩
      conv => whnf
      refine ⟨⟨by omega, by rw [str_size]; omega⟩, ?_⟩
      rw [show ((i : Int)).toNat = i from rfl, hbc]
      conv => whnf
      refine ⟨fun q1 => ?_, fun q1 => ?_⟩
      · have h1 : x.toNat = 34 := by have := eq_of_beq q1; omega
        conv => whnf
        intro vb
        conv => whnf
        refine OOK.appendRowN [92, x] 0 encB_len rfl rfl rfl rfl (.inl ⟨_, rfl⟩) rfl (size := 1) (bytes := 1) rfl rfl rfl (by decide) rfl rfl hO (Src.own (i := 1) (q := 0) (cs := ([92, x] : List UInt8).flatMap encB) (t := 5) (fr := (0, 0)) rfl rfl (fun j v hj => by simpa using hj)) (bytes_one _) (by show (2 * (w.length + 2) + 1000) * 1 ≤ _; omega) (by show 0 < 2; decide) ?_
        intro s' A' c' hO'
        conv => whnf
        have hy : byteT x = [92, x] := by unfold byteT; rw [if_pos h1]; congr 2; exact (UInt8.toNat_inj.1 h1.symm)
        rw [← hy, hnext] at hO'
        refine ⟨⟨i + 1, s', A', c'⟩, [2], Sub.of (by decide) rfl ⟨rfl, ?_, rfl, int_eq (i64_in (by omega) (by omega)), trivial⟩, ⟨hlt, hO'⟩, by show s.length - (i + 1) < s.length - i; omega⟩
        show Value.slice A' (w.length + 2) c' = Value.slice A' ([34] ++ (s.take (i + 1)).flatMap byteT).length c'
        rw [← hnext, List.length_append, hy]; rfl
      have h1 : ¬ x.toNat = 34 := by simp only [beq_eq_false_iff_ne] at q1; omega
      conv => whnf
      refine ⟨fun q2 => ?_, fun q2 => ?_⟩
      · have h2 : x.toNat = 92 := by have := eq_of_beq q2; omega
        conv => whnf
        intro vb
        conv => whnf
        refine OOK.appendRowN [92, x] 0 encB_len rfl rfl rfl rfl (.inl ⟨_, rfl⟩) rfl (size := 1) (bytes := 1) rfl rfl rfl (by decide) rfl rfl hO (Src.own (i := 1) (q := 0) (cs := ([92, x] : List UInt8).flatMap encB) (t := 5) (fr := (0, 0)) rfl rfl (fun j v hj => by simpa using hj)) (bytes_one _) (by show (2 * (w.length + 2) + 1000) * 1 ≤ _; omega) (by show 0 < 2; decide) ?_
        intro s' A' c' hO'
        conv => whnf
        have hy : byteT x = [92, x] := by unfold byteT; rw [if_neg h1, if_pos h2]; congr 2; exact (UInt8.toNat_inj.1 h2.symm)
        rw [← hy, hnext] at hO'
        refine ⟨⟨i + 1, s', A', c'⟩, [2], Sub.of (by decide) rfl ⟨rfl, ?_, rfl, int_eq (i64_in (by omega) (by omega)), trivial⟩, ⟨hlt, hO'⟩, by show s.length - (i + 1) < s.length - i; omega⟩
        show Value.slice A' (w.length + 2) c' = Value.slice A' ([34] ++ (s.take (i + 1)).flatMap byteT).length c'
        rw [← hnext, List.length_append, hy]; rfl
      have h2 : ¬ x.toNat = 92 := by simp only [beq_eq_false_iff_ne] at q2; omega
      conv => whnf
      refine ⟨fun q3 => ?_, fun q3 => ?_⟩
      · have h3 : x.toNat = 10 := by have := eq_of_beq q3; omega
        conv => whnf
        refine OOK.appendRowN [92, 110] 0 encB_len rfl rfl rfl rfl (.inr rfl) rfl (size := 1) (bytes := 1) rfl rfl rfl (by decide) rfl rfl hO (src_str [92, 110]) (bytes_one _) (by show (2 * (w.length + 2) + 1000) * 1 ≤ _; omega) (by show 0 < 2; decide) ?_
        intro s' A' c' hO'
        conv => whnf
        have hy : byteT x = [92, 110] := by unfold byteT; rw [if_neg h1, if_neg h2, if_pos h3]
        rw [← hy, hnext] at hO'
        refine ⟨⟨i + 1, s', A', c'⟩, [1], Sub.of (by decide) rfl ⟨rfl, ?_, rfl, int_eq (i64_in (by omega) (by omega)), trivial⟩, ⟨hlt, hO'⟩, by show s.length - (i + 1) < s.length - i; omega⟩
        show Value.slice A' (w.length + 2) c' = Value.slice A' ([34] ++ (s.take (i + 1)).flatMap byteT).length c'
        rw [← hnext, List.length_append, hy]; rfl
      have h3 : ¬ x.toNat = 10 := by simp only [beq_eq_false_iff_ne] at q3; omega
      conv => whnf
      refine ⟨fun q4 => ?_, fun q4 => ?_⟩
      · have h4 : x.toNat = 9 := by have := eq_of_beq q4; omega
        conv => whnf
        refine OOK.appendRowN [92, 116] 0 encB_len rfl rfl rfl rfl (.inr rfl) rfl (size := 1) (bytes := 1) rfl rfl rfl (by decide) rfl rfl hO (src_str [92, 116]) (bytes_one _) (by show (2 * (w.length + 2) + 1000) * 1 ≤ _; omega) (by show 0 < 2; decide) ?_
        intro s' A' c' hO'
        conv => whnf
        have hy : byteT x = [92, 116] := by unfold byteT; rw [if_neg h1, if_neg h2, if_neg h3, if_pos h4]
        rw [← hy, hnext] at hO'
        refine ⟨⟨i + 1, s', A', c'⟩, [1], Sub.of (by decide) rfl ⟨rfl, ?_, rfl, int_eq (i64_in (by omega) (by omega)), trivial⟩, ⟨hlt, hO'⟩, by show s.length - (i + 1) < s.length - i; omega⟩
        show Value.slice A' (w.length + 2) c' = Value.slice A' ([34] ++ (s.take (i + 1)).flatMap byteT).length c'
        rw [← hnext, List.length_append, hy]; rfl
      have h4 : ¬ x.toNat = 9 := by simp only [beq_eq_false_iff_ne] at q4; omega
      conv => whnf
      obtain ⟨q, hq, hq16⟩ : ∃ q : Nat, q = x.toNat / 16 ∧ q < 16 := ⟨_, rfl, by omega⟩
      obtain ⟨r, hr, hr16⟩ : ∃ r : Nat, r = x.toNat % 16 ∧ r < 16 := ⟨_, rfl, by omega⟩
      have e1 : (x.toNat : Int).fdiv (2 ^ min (Int.toNat 4) IntKind.u8.bits) = (q : Int) := by
        rw [show min (Int.toNat 4) IntKind.u8.bits = 4 from rfl, Int.fdiv_eq_ediv_of_nonneg _ (by decide)]
        omega
      have e2 : IntKind.u8.wrap ↑(BitVec.ofInt IntKind.u8.bits (x.toNat : Int) &&& BitVec.ofInt IntKind.u8.bits 15).toNat = (r : Int) := by
        have := and15 ⟨x.toNat, x.toNat_lt⟩
        rw [hr]
        exact this
      have d1 : byteAt (⟨#[48, 49, 50, 51, 52, 53, 54, 55, 56, 57, 97, 98, 99, 100, 101, 102]⟩ : ByteArray) (q : Int).toNat = (dig q).toNat := dig_at ⟨q, hq16⟩
      have d2 : byteAt (⟨#[48, 49, 50, 51, 52, 53, 54, 55, 56, 57, 97, 98, 99, 100, 101, 102]⟩ : ByteArray) (r : Int).toNat = (dig r).toNat := dig_at ⟨r, hr16⟩
      refine ⟨fun q5 => ?_, fun q5 => ?_⟩
      · have h5 : x.toNat < 32 ∨ 126 < x.toNat := .inl (by have := of_decide_eq_true q5; omega)
        conv => whnf
        refine COK.draw [] (by kernel_rfl) (by kernel_rfl) ?_
        conv => whnf
        rw [e1]
        refine ⟨⟨by omega, by show (q : Int) < 16; omega⟩, ?_⟩
        rw [d1]
        conv => whnf
        rw [e2]
        refine ⟨⟨by omega, by show (r : Int) < 16; omega⟩, ?_⟩
        rw [d2]
        conv => whnf
        intro vb
        conv => whnf
        refine ⟨⟨rfl, trivial⟩, ?_⟩
        conv => whnf
        refine OOK.appendRowN [92, 120, dig q, dig r] 0 encB_len rfl rfl rfl rfl (.inl ⟨_, rfl⟩) rfl (size := 1) (bytes := 1) rfl rfl rfl (by decide) rfl rfl hO (Src.own (i := 1) (q := 0) (cs := ([92, 120, dig q, dig r] : List UInt8).flatMap encB) (t := 5) (fr := (0, 0)) rfl rfl (fun j v hj => by simpa using hj)) (bytes_one _) (by show (2 * (w.length + 4) + 1000) * 1 ≤ _; omega) (by show 0 < 4; decide) ?_
        intro s' A' c' hO'
        conv => whnf
        refine ⟨⟨rfl, trivial⟩, ?_⟩
        conv => whnf
        have hy : byteT x = [92, 120, dig q, dig r] := by unfold byteT; rw [if_neg h1, if_neg h2, if_neg h3, if_neg h4, if_pos h5]; unfold hexT; rw [← hq, ← hr]
        rw [← hy, hnext] at hO'
        refine ⟨⟨i + 1, s', A', c'⟩, [2], Sub.of (by decide) rfl ⟨rfl, ?_, rfl, int_eq (i64_in (by omega) (by omega)), trivial⟩, ⟨hlt, hO'⟩, by show s.length - (i + 1) < s.length - i; omega⟩
        show Value.slice A' (w.length + 4) c' = Value.slice A' ([34] ++ (s.take (i + 1)).flatMap byteT).length c'
        rw [← hnext, List.length_append, hy]; rfl
      conv => whnf
      refine ⟨fun q6 => ?_, fun q6 => ?_⟩
      · have h5 : x.toNat < 32 ∨ 126 < x.toNat := .inr (by have := of_decide_eq_true q6; omega)
        conv => whnf
        refine COK.draw [] (by kernel_rfl) (by kernel_rfl) ?_
        conv => whnf
        rw [e1]
        refine ⟨⟨by omega, by show (q : Int) < 16; omega⟩, ?_⟩
        rw [d1]
        conv => whnf
        rw [e2]
        refine ⟨⟨by omega, by show (r : Int) < 16; omega⟩, ?_⟩
        rw [d2]
        conv => whnf
        intro vb
        conv => whnf
        refine ⟨⟨rfl, trivial⟩, ?_⟩
        conv => whnf
        refine OOK.appendRowN [92, 120, dig q, dig r] 0 encB_len rfl rfl rfl rfl (.inl ⟨_, rfl⟩) rfl (size := 1) (bytes := 1) rfl rfl rfl (by decide) rfl rfl hO (Src.own (i := 1) (q := 0) (cs := ([92, 120, dig q, dig r] : List UInt8).flatMap encB) (t := 5) (fr := (0, 0)) rfl rfl (fun j v hj => by simpa using hj)) (bytes_one _) (by show (2 * (w.length + 4) + 1000) * 1 ≤ _; omega) (by show 0 < 4; decide) ?_
        intro s' A' c' hO'
        conv => whnf
        refine ⟨⟨rfl, trivial⟩, ?_⟩
        conv => whnf
        have hy : byteT x = [92, 120, dig q, dig r] := by unfold byteT; rw [if_neg h1, if_neg h2, if_neg h3, if_neg h4, if_pos h5]; unfold hexT; rw [← hq, ← hr]
        rw [← hy, hnext] at hO'
        refine ⟨⟨i + 1, s', A', c'⟩, [2], Sub.of (by decide) rfl ⟨rfl, ?_, rfl, int_eq (i64_in (by omega) (by omega)), trivial⟩, ⟨hlt, hO'⟩, by show s.length - (i + 1) < s.length - i; omega⟩
        show Value.slice A' (w.length + 4) c' = Value.slice A' ([34] ++ (s.take (i + 1)).flatMap byteT).length c'
        rw [← hnext, List.length_append, hy]; rfl
      have h5 : ¬ (x.toNat < 32 ∨ 126 < x.toNat) := by
        have := of_decide_eq_false q5
        have := of_decide_eq_false q6
        omega
      conv => whnf
      intro vb
      conv => whnf
      refine OOK.appendRowN [x] 0 encB_len rfl rfl rfl rfl (.inl ⟨_, rfl⟩) rfl (size := 1) (bytes := 1) rfl rfl rfl (by decide) rfl rfl hO (Src.own (i := 1) (q := 0) (cs := ([x] : List UInt8).flatMap encB) (t := 5) (fr := (0, 0)) rfl rfl (fun j v hj => by simpa using hj)) (bytes_one _) (by show (2 * (w.length + 1) + 1000) * 1 ≤ _; omega) (by show 0 < 1; decide) ?_
      intro s' A' c' hO'
      conv => whnf
      have hy : byteT x = [x] := by unfold byteT; rw [if_neg h1, if_neg h2, if_neg h3, if_neg h4, if_neg h5]
      rw [← hy, hnext] at hO'
      refine ⟨⟨i + 1, s', A', c'⟩, [2], Sub.of (by decide) rfl ⟨rfl, ?_, rfl, int_eq (i64_in (by omega) (by omega)), trivial⟩, ⟨hlt, hO'⟩, by show s.length - (i + 1) < s.length - i; omega⟩
      show Value.slice A' (w.length + 1) c' = Value.slice A' ([34] ++ (s.take (i + 1)).flatMap byteT).length c'
      rw [← hnext, List.length_append, hy]; rfl
    · have hid : i = s.length := by omega
      subst hid
      refine vcC_ok _ _ _ _ _ ?_
      conv => whnf
      refine ⟨fun h1 => absurd (of_decide_eq_true h1) (by omega), fun _ => ?_⟩
      conv => whnf
      rw [List.take_length] at hw
      rw [hw] at hO ⊢
      exact ⟨⟨0, so, A, c⟩, [0], Sub.of (by decide) rfl ⟨rfl, trivial⟩, hO⟩
  rintro ⟨i, so, A, c⟩ g1 hg1 hO
  simp only at hO
  dsimp only
  have hbl := bytes_len s
  refine vcC_ok _ _ _ _ _ ?_
  conv => whnf
  intro nb
  conv => whnf
  refine OOK.appendRowB 34 0 encB_len rfl rfl rfl rfl (.inl ⟨_, rfl⟩) rfl (size := 1) (bytes := 1) rfl rfl rfl (by decide) rfl rfl hO (Src.own (i := 1) (q := 0) (cs := encB 34) (t := 5) (fr := (0, 0)) rfl rfl (fun j v hj => by simpa using hj)) (encB_one _) (by rw [List.length_append]; simp only [List.length_cons, List.length_nil]; omega) ?_
  intro s' A' c' hO'
  conv => whnf
  refine OOK.rowF 2 hO' rfl fun g2 hg2 hr => ?_
  refine OOK.toStr (A := A') (c := c') (l := quoteT s) rfl ?_ rfl rfl rfl hr ?_
  · show some (Value.slice A' (([34] ++ s.flatMap byteT).length + 1) c') = some (Value.slice A' (quoteT s).length c')
    unfold quoteT
    rw [List.length_append (bs := [34])]
    rfl
  conv => whnf
  exact .mk ⟨_, [], _, rfl, by decide, rfl, trivial, rfl, rfl⟩
end Go.Proofs.YthkfnmmbjoadbaaGreatDoor
/- WholeTexts: the walk of vtext's text. -/
set_option linter.unusedVariables false
set_option linter.unusedSimpArgs false
set_option maxRecDepth 100000
namespace Go.Proofs.YthkfnmmbjoadbaaGreatDoor
open Go Go.SX

theorem f_vtext (v : Val) : ∀ (d : Nat) (g : GH), v.Ok g → WF d v.t → d ≤ 6 → TabG g → Tri Tryz.prog 43 [v.val] g [] fun v' g' m' => v' = .string (str v.t.txt) ∧ m' = [] := by
  induction v using Val.ind with
  | h kind int text items iA ic keys kA kc ih =>
    intro d g hv hw hd ht
    obtain ⟨hi, hk, hic, hkc, hb, hit⟩ := hv
    have hlen := txt_len _ d hw
    rw [Val.t_mk] at hw hlen ⊢
    have hbd : bnd d ≤ 1000000 := by
      have : ∀ e, e ≤ 6 → bnd e ≤ 1000000 := by decide
      exact this d hd
    refine Tri.cok [.val (Val.mk kind int text items iA ic keys kA kc).val] Tryz.func43 rfl Tryz.ntmps43 rfl rfl ?_
    rcases hw.inv with ⟨rfl, rfl, rfl, he, rfl⟩ | ⟨rfl, hi1, rfl, he, rfl⟩ | ⟨rfl, h1, h2, rfl, he, rfl⟩ | ⟨rfl, rfl, h6, he, rfl⟩ | hrest
    · refine vcC_ok _ _ _ _ _ ?_
      conv => whnf
      intro b1
      conv => whnf
      refine ⟨fun _ => ?_, fun q => absurd q (by decide)⟩
      conv => whnf
      exact .mk ⟨_, [], _, rfl, by decide, rfl, trivial, by rw [T.txt0] <;> rfl, rfl⟩
    · refine vcC_ok _ _ _ _ _ ?_
      conv => whnf
      intro b1
      conv => whnf
      refine ⟨fun q => absurd q (by decide), fun _ => ?_⟩
      conv => whnf
      refine ⟨fun _ => ?_, fun q => absurd q (by decide)⟩
      conv => whnf
      refine OOK.call [] rfl rfl rfl (by kernel_rfl) rfl (f_fbool g (int == 1)) (by decide) rfl ?_
      rintro v_ g1 m_ hg1 ⟨rfl, rfl⟩
      conv => whnf
      refine .mk ⟨_, [], _, rfl, by decide, rfl, trivial, ?_, rfl⟩
      rw [T.txt1]
      rcases hi1 with rfl | rfl <;> rfl
    · refine vcC_ok _ _ _ _ _ ?_
      conv => whnf
      intro b1
      conv => whnf
      refine ⟨fun q => absurd q (by decide), fun _ => ?_⟩
      conv => whnf
      refine ⟨fun q => absurd q (by decide), fun _ => ?_⟩
      conv => whnf
      refine ⟨fun _ => ?_, fun q => absurd q (by decide)⟩
      conv => whnf
      refine OOK.call [] rfl rfl rfl (by kernel_rfl) rfl (f_itoa g int h1 h2 ht) (by decide) rfl ?_
      rintro v_ g1 m_ hg1 ⟨rfl, rfl⟩
      conv => whnf
      exact .mk ⟨_, [], _, rfl, by decide, rfl, trivial, by rw [T.txt2] <;> rfl, rfl⟩
    · refine vcC_ok _ _ _ _ _ ?_
      conv => whnf
      intro b1
      conv => whnf
      refine ⟨fun q => absurd q (by decide), fun _ => ?_⟩
      conv => whnf
      refine ⟨fun q => absurd q (by decide), fun _ => ?_⟩
      conv => whnf
      refine ⟨fun q => absurd q (by decide), fun _ => ?_⟩
      conv => whnf
      refine ⟨fun _ => ?_, fun q => absurd q (by decide)⟩
      conv => whnf
      refine OOK.call [] rfl rfl rfl (by kernel_rfl) rfl (f_vquote g text (by omega)) (by decide) rfl ?_
      rintro v_ g1 m_ hg1 ⟨rfl, rfl⟩
      conv => whnf
      exact .mk ⟨_, [], _, rfl, by decide, rfl, trivial, by rw [T.txt3] <;> rfl, rfl⟩
    obtain ⟨d', rfl, hkd, rfl, rfl, hmap, hl4, hwi⟩ : ∃ d', d = d' + 1 ∧ (kind = 4 ∨ kind = 5) ∧ int = 0 ∧ text = [] ∧ (kind = 5 → keys.length = items.length ∧ ∀ k ∈ keys, k.length ≤ 6) ∧ items.length ≤ 4 ∧ ∀ x ∈ items, WF d' x.t := by
      rcases hrest with ⟨d', rfl, rfl, rfl, rfl, rfl, hl, hw⟩ | ⟨d', rfl, rfl, rfl, rfl, hk, hl, hs, h6, hw⟩
      · exact ⟨d', rfl, .inl rfl, rfl, rfl, (fun h => by cases h), by simpa using hl, fun x hx => hw _ (List.mem_map_of_mem hx)⟩
      · exact ⟨d', rfl, .inr rfl, rfl, rfl, fun _ => ⟨by simpa using hk, h6⟩, by simpa using hl, fun x hx => hw _ (List.mem_map_of_mem hx)⟩
    obtain ⟨ps, hps⟩ : ∃ ps, ps = if kind = 5 then T.txtm (items.map Val.t) keys else T.txts (items.map Val.t) := ⟨_, rfl⟩
    have hpl : ps.length = items.length := by rw [hps]; split <;> simp [T.txtm_len, T.txts_len]
    have htx : (T.mk kind 0 [] (items.map Val.t) keys).txt = (if kind = 5 then [123] else [91]) ++ joinB kSep ps ++ (if kind = 5 then [125] else [93]) := by
      rcases hkd with rfl | rfl
      · rw [hps, T.txt4]; rfl
      · rw [hps, T.txt5]; rfl
    rw [htx] at hlen ⊢
    have hjl : (joinB kSep ps).length ≤ 1000000 := by rw [List.length_append, List.length_append] at hlen; omega
    have k0 : ¬ (kind == 0) = true := by rcases hkd with rfl | rfl <;> decide
    have k1 : ¬ (kind == 1) = true := by rcases hkd with rfl | rfl <;> decide
    have k2 : ¬ (kind == 2) = true := by rcases hkd with rfl | rfl <;> decide
    have k3 : ¬ (kind == 3) = true := by rcases hkd with rfl | rfl <;> decide
    refine COK.seq (vcC_ok _ _ _ _ _ ?_)
    conv => whnf
    intro b1
    conv => whnf
    refine COK.seq (vcC_ok _ _ _ _ _ ?_)
    conv => whnf
    refine COK.seq (vcC_ok _ _ _ _ _ ?_)
    conv => whnf
    refine ⟨fun q => absurd q k0, fun _ => ?_⟩
    conv => whnf
    refine ⟨fun q => absurd q k1, fun _ => ?_⟩
    conv => whnf
    refine ⟨fun q => absurd q k2, fun _ => ?_⟩
    conv => whnf
    refine ⟨fun q => absurd q k3, fun _ => ?_⟩
    conv => whnf
    have hxl : ∀ x ∈ items, x.t.txt.length ≤ bnd d' := fun x hx => txt_len _ d' (hwi x hx)
    have hbd' : bnd (d' + 1) = 4 * bnd d' + 134 := rfl
    refine ⟨fun q4 => ?_, fun q4 => ?_⟩
    · obtain rfl : kind = 4 := by simpa using q4
      rw [if_neg (by decide)] at hps
      conv => whnf
      refine COK.dummy 0 ?_
      refine COK.loop (α := Ps) (fun y => [(1, .own 0 0), (3, .val (.slice y.A (ps.take y.i).length y.c)), (31, .val (.slice iA items.length ic)), (32, .val (.int .i64 items.length)), (33, .val (.int .i64 y.i))]) (fun y => [⟨b1, .cells (Val.mk 4 0 [] items iA ic keys kA kc).cells 28 (0, 0)⟩, y.s]) (fun y _ => y.i ≤ items.length ∧ OwnAt 9 1 encK (ps.take y.i) y.s y.A y.c) (fun y => items.length - y.i) ⟨0, ⟨0, .dead⟩, none, 0⟩ [0, 1] (Sub.of (by decide) rfl ⟨rfl, rfl, rfl, rfl, rfl, trivial⟩) ⟨Nat.zero_le _, .nil _ rfl⟩ ?_
      rintro ⟨i, so, A, c⟩ g1 hg1 ⟨hil, hO⟩
      simp only at hil hO
      dsimp only
      have hpi : (ps.take i).length = i := by rw [List.length_take]; omega
      by_cases hlt : i < items.length
      · obtain ⟨x, hx⟩ : ∃ x, items[i]? = some x := ⟨_, List.getElem?_eq_getElem hlt⟩
        have hmem := List.mem_of_getElem? hx
        have hxt := hxl x hmem
        have hT := ih x hmem d' g1 ((hit x hmem).mono hg1) (hwi x hmem) (by omega) (ht.mono hg1)
        have hpp : ps[i]? = some x.t.txt := by
          rw [hps, T.txts_get, List.getElem?_map, hx]
          rfl
        obtain ⟨a, rfl, hra⟩ := (hi.mono hg1).at_ Val.len hx
        obtain ⟨xk, xi, xt, xl, xA, xc, xs, xB, xd⟩ := x
        refine vcC_ok _ _ _ _ _ ?_
        conv => whnf
        refine ⟨fun _ => ?_, fun h1 => absurd (of_decide_eq_false h1) (by omega)⟩
        conv => whnf
        refine ⟨⟨by omega, by omega⟩, ?_⟩
        conv => whnf
        refine OOK.yn (YN.loads rfl rfl rfl hra ?_)
        conv => whnf
        intro b5
        conv => whnf
        refine OOK.call [] rfl rfl rfl (by kernel_rfl) rfl (hT) (by decide) rfl ?_
        rintro v_ g2 m_ hg2 ⟨rfl, rfl⟩
        conv => whnf
        obtain ⟨w, hw'⟩ : ∃ w, w = (Val.mk xk xi xt xl xA xc xs xB xd).t.txt := ⟨_, rfl⟩
        rw [← hw'] at hpp hxt ⊢
        intro nb
        conv => whnf
        refine OOK.appendRowB w 1 encK_len rfl rfl rfl rfl (.inl ⟨_, rfl⟩) rfl (size := 1) (bytes := 16) rfl rfl rfl (by decide) rfl rfl hO
          (Src.own (i := 3) (q := 0) (cs := encK w) (t := 9) (fr := (0, 0)) rfl rfl (fun j v hj => by simpa using hj)) (encK_one _) (by rw [hpi]; show (2 * (i + 1) + 1000) * 16 ≤ _; omega) ?_
        intro s' A' c' hO'
        conv => whnf
        rw [← take_get hpp] at hO'
        refine ⟨⟨i + 1, s', A', c'⟩, [0, 4], Sub.of (by decide) rfl ⟨rfl, ?_, rfl, rfl, int_eq (i64_in (by omega) (by omega)), trivial⟩, ⟨hlt, hO'⟩, by show items.length - (i + 1) < items.length - i; omega⟩
        show Value.slice A' ((ps.take i).length + 1) c' = Value.slice A' (ps.take (i + 1)).length c'
        rw [take_get hpp, List.length_append]; rfl
      · have hid : i = items.length := by omega
        subst hid
        refine vcC_ok _ _ _ _ _ ?_
        conv => whnf
        refine ⟨fun h1 => absurd (of_decide_eq_true h1) (by omega), fun _ => ?_⟩
        conv => whnf
        have htk : ps.take items.length = ps := by rw [← hpl, List.take_length]
        rw [htk] at hO ⊢
        have hcc := hO.le
        refine OOK.rowF 1 hO rfl fun g2 hg2 hr => ?_
        refine OOK.call [] rfl rfl rfl (by kernel_rfl) rfl (f_join g2 A c ps kSep hr (by omega) hcc (by decide) (by decide) (by omega)) (by decide) rfl ?_
        rintro v_ g3 m_ hg3 ⟨rfl, rfl⟩
        conv => whnf
        rw [show (⟨#[91]⟩ : ByteArray) = str [91] from rfl, str_app]
        refine ⟨by rw [str_size, str_size]; show 1 + _ ≤ _; omega, ?_⟩
        conv => whnf
        rw [show (⟨#[93]⟩ : ByteArray) = str [93] from rfl, str_app]
        refine ⟨by rw [str_size, str_size]; simp only [List.length_append, List.length_cons, List.length_nil]; omega, ?_⟩
        conv => whnf
        exact .mk ⟨_, [], _, rfl, by decide, rfl, trivial, rfl, rfl⟩
    obtain rfl : kind = 5 := by
      rcases hkd with h | h
      · rw [h] at q4; exact absurd q4 (by decide)
      · exact h
    obtain ⟨hkl, h6⟩ := hmap rfl
    rw [if_pos rfl] at hps
    conv => whnf
    refine COK.dummy 0 ?_
    refine COK.seq (COK.cut (α := Ps) (fun y => [(3, .val (.slice y.A ps.length y.c))]) (fun y => [y.s]) (fun y _ => OwnAt 9 1 encK ps y.s y.A y.c) ?_ ?_)
    · refine vcC_ok _ _ _ _ _ ?_
      conv => whnf
      refine COK.loop (α := Ps) (fun y => [(1, .own 0 0), (3, .val (.slice y.A (ps.take y.i).length y.c)), (48, .val (.slice kA keys.length kc)), (49, .val (.int .i64 items.length)), (50, .val (.int .i64 y.i))]) (fun y => [⟨b1, .cells (Val.mk 5 0 [] items iA ic keys kA kc).cells 28 (0, 0)⟩, y.s]) (fun y _ => y.i ≤ items.length ∧ OwnAt 9 1 encK (ps.take y.i) y.s y.A y.c) (fun y => items.length - y.i) ⟨0, ⟨0, .dead⟩, none, 0⟩ [0, 1] (Sub.of (by decide) rfl ⟨rfl, rfl, rfl, int_eq (by rw [hkl]), rfl, trivial⟩) ⟨Nat.zero_le _, .nil _ rfl⟩ ?_
      rintro ⟨i, so, A, c⟩ g1 hg1 ⟨hil, hO⟩
      simp only at hil hO
      dsimp only
      have hpi : (ps.take i).length = i := by rw [List.length_take]; omega
      by_cases hlt : i < items.length
      · obtain ⟨x, hx⟩ : ∃ x, items[i]? = some x := ⟨_, List.getElem?_eq_getElem hlt⟩
        obtain ⟨k, hkk⟩ : ∃ k, keys[i]? = some k := ⟨_, List.getElem?_eq_getElem (by omega)⟩
        have hk6 := h6 k (List.mem_of_getElem? hkk)
        have hql := quote_len k
        have hmem := List.mem_of_getElem? hx
        have hxt := hxl x hmem
        have hT : ∀ g', g1.le g' → _ := fun g' hg' => ih x hmem d' g' ((hit x hmem).mono (hg1.trans hg')) (hwi x hmem) (by omega) (ht.mono (hg1.trans hg'))
        have hpp : ps[i]? = some (quoteT k ++ [58, 32] ++ x.t.txt) := by
          rw [hps]
          exact T.txtm_get _ _ _ _ _ (by rw [List.getElem?_map, hx]; rfl) hkk
        obtain ⟨a, rfl, hra⟩ := (hi.mono hg1).at_ Val.len hx
        obtain ⟨ka, rfl, hrk⟩ := (hk.mono hg1).at_ encK_len hkk
        obtain ⟨xk, xi, xt, xl, xA, xc, xs, xB, xd⟩ := x
        obtain ⟨w, hw'⟩ : ∃ w, w = (Val.mk xk xi xt xl xA xc xs xB xd).t.txt := ⟨_, rfl⟩
        rw [← hw'] at hpp hxt hT
        refine vcC_ok _ _ _ _ _ ?_
        conv => whnf
        refine ⟨fun _ => ?_, fun h1 => absurd (of_decide_eq_false h1) (by omega)⟩
        conv => whnf
        refine ⟨⟨by omega, by omega⟩, ?_⟩
        conv => whnf
        refine OOK.yn (YN.load rfl rfl rfl (v := .string (str k)) (Reads.at0 hrk) ?_)
        conv => whnf
        refine COK.draw [0] (by kernel_rfl) (by kernel_rfl) ?_
        conv => whnf
        refine ⟨⟨by omega, by omega⟩, ?_⟩
        conv => whnf
        refine YN.loads rfl rfl rfl hra ?_
        conv => whnf
        refine OOK.call [] rfl rfl rfl (by kernel_rfl) rfl (f_vquote g1 k (by omega)) (by decide) rfl ?_
        rintro v_ g2 m_ hg2 ⟨rfl, rfl⟩
        conv => whnf
        refine ⟨⟨rfl, rfl, trivial⟩, ?_⟩
        conv => whnf
        rw [show (⟨#[58, 32]⟩ : ByteArray) = str [58, 32] from rfl, str_app]
        refine ⟨by rw [str_size, str_size]; show _ + 2 ≤ _; omega, ?_⟩
        conv => whnf
        refine OOK.call [] rfl rfl rfl (by kernel_rfl) rfl (hT g2 hg2) (by decide) rfl ?_
        rintro v_ g3 m_ hg3 ⟨rfl, rfl⟩
        conv => whnf
        refine ⟨⟨rfl, rfl, trivial⟩, ?_⟩
        conv => whnf
        rw [str_app]
        refine ⟨by rw [str_size, str_size]; simp only [List.length_append, List.length_cons, List.length_nil]; omega, ?_⟩
        conv => whnf
        intro nb
        conv => whnf
        refine ⟨⟨rfl, rfl, trivial⟩, ?_⟩
        conv => whnf
        refine OOK.appendRowB (quoteT k ++ [58, 32] ++ w) 1 encK_len rfl rfl rfl rfl (.inl ⟨_, rfl⟩) rfl (size := 1) (bytes := 16) rfl rfl rfl (by decide) rfl rfl hO
          (Src.own (i := 2) (q := 0) (cs := encK (quoteT k ++ [58, 32] ++ w)) (t := 9) (fr := (0, 0)) rfl rfl (fun j v hj => by simpa using hj)) (encK_one _) (by rw [hpi]; show (2 * (i + 1) + 1000) * 16 ≤ _; omega) ?_
        intro s' A' c' hO'
        conv => whnf
        refine ⟨⟨rfl, rfl, trivial⟩, ?_⟩
        conv => whnf
        rw [← take_get hpp] at hO'
        refine ⟨⟨i + 1, s', A', c'⟩, [0, 3], Sub.of (by decide) rfl ⟨rfl, ?_, rfl, rfl, int_eq (i64_in (by omega) (by omega)), trivial⟩, ⟨hlt, hO'⟩, by show items.length - (i + 1) < items.length - i; omega⟩
        show Value.slice A' ((ps.take i).length + 1) c' = Value.slice A' (ps.take (i + 1)).length c'
        rw [take_get hpp, List.length_append]; rfl
      · have hid : i = items.length := by omega
        subst hid
        refine vcC_ok _ _ _ _ _ ?_
        conv => whnf
        refine ⟨fun h1 => absurd (of_decide_eq_true h1) (by omega), fun _ => ?_⟩
        conv => whnf
        have htk : ps.take items.length = ps := by rw [← hpl, List.take_length]
        rw [htk] at hO ⊢
        exact ⟨⟨0, so, A, c⟩, [1], Sub.of (by decide) rfl ⟨rfl, trivial⟩, hO⟩
    rintro ⟨i, so, A, c⟩ g1 hg1 hO
    simp only at hO
    dsimp only
    have hcc := hO.le
    refine COK.rowF 0 hO rfl fun g2 hg2 hr => ?_
    refine vcC_ok _ _ _ _ _ ?_
    conv => whnf
    refine OOK.call [] rfl rfl rfl (by kernel_rfl) rfl (f_join g2 A c ps kSep hr (by omega) hcc (by decide) (by decide) (by omega)) (by decide) rfl ?_
    rintro v_ g3 m_ hg3 ⟨rfl, rfl⟩
    conv => whnf
    rw [show (⟨#[123]⟩ : ByteArray) = str [123] from rfl, str_app]
    refine ⟨by rw [str_size, str_size]; show 1 + _ ≤ _; omega, ?_⟩
    conv => whnf
    rw [show (⟨#[125]⟩ : ByteArray) = str [125] from rfl, str_app]
    refine ⟨by rw [str_size, str_size]; simp only [List.length_append, List.length_cons, List.length_nil]; omega, ?_⟩
    conv => whnf
    exact .mk ⟨_, [], _, rfl, by decide, rfl, trivial, rfl, rfl⟩
end Go.Proofs.YthkfnmmbjoadbaaGreatDoor
/- WholeTexts: size and depth. -/
-- INST THM=f_size;;FUN=workflow/value.Size;;ACC=1 + sizs;;RES=T.siz;;FIN=sizs_fin;;STEP=rw [sizs_take hxx, i64_in (by omega) (by omega)]; push_cast; omega
-- INST THM=f_depth;;FUN=workflow/value.Depth;;ACC=0 + deps;;RES=T.dep;;FIN=deps_fin;;STEP=rw [deps_take hxx]; show maxI _ _ = _; unfold maxI; split <;> omega
set_option linter.unusedVariables false
set_option linter.unusedSimpArgs false
set_option maxRecDepth 100000
namespace Go.Proofs.YthkfnmmbjoadbaaGreatDoor
open Go Go.SX

mutual
def T.siz : T → Nat
  | .mk _ _ _ items _ => 1 + sizs items
def sizs : List T → Nat
  | [] => 0
  | x :: r => x.siz + sizs r
end
mutual
def T.dep : T → Nat
  | .mk _ _ _ items _ => deps items + 1
def deps : List T → Nat
  | [] => 0
  | x :: r => max x.dep (deps r)
end
theorem sizs_app (x : T) : ∀ (l : List T), sizs (l ++ [x]) = sizs l + x.siz
  | [] => by simp [sizs]
  | y :: r => by simp [sizs, sizs_app x r]; omega
theorem deps_app (x : T) : ∀ (l : List T), deps (l ++ [x]) = max (deps l) x.dep
  | [] => by simp [deps]
  | y :: r => by simp [deps, deps_app x r]
theorem sizs_take {l : List T} {i : Nat} {x : T} (h : l[i]? = some x) : sizs (l.take (i + 1)) = sizs (l.take i) + x.siz := by rw [take_get h, sizs_app]
theorem deps_take {l : List T} {i : Nat} {x : T} (h : l[i]? = some x) : deps (l.take (i + 1)) = max (deps (l.take i)) x.dep := by rw [take_get h, deps_app]
def szB : Nat → Nat
  | 0 => 1
  | d + 1 => 1 + 4 * szB d
theorem sizs_bound (B : Nat) : ∀ (l : List T), (∀ x ∈ l, x.siz ≤ B) → sizs l ≤ l.length * B
  | [], _ => Nat.zero_le _
  | x :: r, h => by
    have h1 := sizs_bound B r fun y hy => h y (List.mem_cons_of_mem _ hy)
    have h2 := h x List.mem_cons_self
    rw [sizs, List.length_cons, Nat.add_mul]
    omega
theorem szB_pos : ∀ d, 1 ≤ szB d
  | 0 => Nat.le_refl _
  | d + 1 => by unfold szB; omega
theorem siz_len (t : T) : ∀ d, WF d t → t.siz ≤ szB d := by
  induction t using T.ind with
  | h kind int text its keys ih =>
    intro d h
    have hp := szB_pos d
    have key : ∀ d', d = d' + 1 → its.length ≤ 4 → (∀ x ∈ its, WF d' x) → (T.mk kind int text its keys).siz ≤ szB d := fun d' hd hl hw => by
      have h1 := sizs_bound (szB d') its fun x hx => ih x hx d' (hw x hx)
      have h2 : its.length * szB d' ≤ 4 * szB d' := Nat.mul_le_mul_right _ hl
      subst hd
      rw [T.siz]
      unfold szB
      omega
    rcases h.inv with ⟨rfl, rfl, rfl, rfl, rfl⟩ | ⟨rfl, hi, rfl, rfl, rfl⟩ | ⟨rfl, h1, h2, rfl, rfl, rfl⟩ | ⟨rfl, rfl, h6, rfl, rfl⟩ | ⟨d', rfl, rfl, rfl, rfl, rfl, hl, hw⟩ | ⟨d', rfl, rfl, rfl, rfl, hk, hl, hs, h6, hw⟩
    · simp [T.siz, sizs]; omega
    · simp [T.siz, sizs]; omega
    · simp [T.siz, sizs]; omega
    · simp [T.siz, sizs]; omega
    · exact key d' rfl hl hw
    · exact key d' rfl hl hw
theorem deps_bound (B : Nat) : ∀ (l : List T), (∀ x ∈ l, x.dep ≤ B) → deps l ≤ B
  | [], _ => Nat.zero_le _
  | x :: r, h => by
    have h1 := deps_bound B r fun y hy => h y (List.mem_cons_of_mem _ hy)
    have h2 := h x List.mem_cons_self
    rw [deps]
    omega
theorem dep_len (t : T) : ∀ d, WF d t → t.dep ≤ d + 1 := by
  induction t using T.ind with
  | h kind int text its keys ih =>
    intro d h
    have key : ∀ d', d = d' + 1 → (∀ x ∈ its, WF d' x) → (T.mk kind int text its keys).dep ≤ d + 1 := fun d' hd hw => by
      have h1 := deps_bound (d' + 1) its fun x hx => ih x hx d' (hw x hx)
      subst hd
      rw [T.dep]
      omega
    rcases h.inv with ⟨rfl, rfl, rfl, rfl, rfl⟩ | ⟨rfl, hi, rfl, rfl, rfl⟩ | ⟨rfl, h1, h2, rfl, rfl, rfl⟩ | ⟨rfl, rfl, h6, rfl, rfl⟩ | ⟨d', rfl, rfl, rfl, rfl, rfl, hl, hw⟩ | ⟨d', rfl, rfl, rfl, rfl, hk, hl, hs, h6, hw⟩
    · simp [T.dep, deps]
    · simp [T.dep, deps]
    · simp [T.dep, deps]
    · simp [T.dep, deps]
    · exact key d' rfl hw
    · exact key d' rfl hw
theorem WF.items {d : Nat} {kind int : Int} {text : List UInt8} {items : List Val} {keys : List (List UInt8)} (h : WF d (.mk kind int text (items.map Val.t) keys)) : items = [] ∨ ∃ d', d = d' + 1 ∧ items.length ≤ 4 ∧ ∀ x ∈ items, WF d' x.t := by
  rcases h.inv with ⟨_, _, _, he, _⟩ | ⟨_, _, _, he, _⟩ | ⟨_, _, _, _, he, _⟩ | ⟨_, _, _, he, _⟩ | ⟨d', hd, _, _, _, _, hl, hw⟩ | ⟨d', hd, _, _, _, _, hl, _, _, hw⟩
  · exact .inl (map_nil he)
  · exact .inl (map_nil he)
  · exact .inl (map_nil he)
  · exact .inl (map_nil he)
  · exact .inr ⟨d', hd, by simpa using hl, fun x hx => hw _ (List.mem_map_of_mem hx)⟩
  · exact .inr ⟨d', hd, by simpa using hl, fun x hx => hw _ (List.mem_map_of_mem hx)⟩
theorem sizs_app2 : ∀ (a b : List T), sizs (a ++ b) = sizs a + sizs b
  | [], b => by simp [sizs]
  | x :: r, b => by simp [sizs, sizs_app2 r b]; omega
theorem deps_app2 : ∀ (a b : List T), deps (a ++ b) = max (deps a) (deps b)
  | [], b => by simp [deps]
  | x :: r, b => by simp [deps, deps_app2 r b]
theorem sizs_mono (l : List T) (i : Nat) : sizs (l.take i) ≤ sizs l := by
  conv => rhs; rw [← List.take_append_drop i l, sizs_app2]
  omega
theorem deps_mono (l : List T) (i : Nat) : deps (l.take i) ≤ deps l := by
  conv => rhs; rw [← List.take_append_drop i l, deps_app2]
  omega
theorem sizs_fin (l : List T) (h : sizs l ≤ 1000000 ∨ True) : tup [Value.int .i64 ((1 + sizs l : Nat) : Int)] = Value.int .i64 ((1 + sizs l : Nat) : Int) := rfl
theorem deps_fin (l : List T) (h : deps l ≤ 1000000) : tup [Value.int .i64 (IntKind.i64.wrap (((0 + deps l : Nat) : Int) + 1))] = Value.int .i64 ((deps l + 1 : Nat) : Int) := by
  show Value.int _ _ = _
  rw [i64_in (by omega) (by omega)]
  congr 1
  omega
theorem f_size (v : Val) : ∀ (d : Nat) (g : GH), v.Ok g → WF d v.t → d ≤ 6 → Tri Tryz.prog 21 [v.val] g [] fun v' g' m' => v' = .int .i64 (T.siz v.t : Int) ∧ m' = [] := by
  induction v using Val.ind with
  | h kind int text items iA ic keys kA kc ih =>
    intro d g hv hw hd
    obtain ⟨hi, hk, hic, hkc, hb, hit⟩ := hv
    have hsl := siz_len _ d hw
    have hdl := dep_len _ d hw
    have hB : szB d ≤ 100000 := by
      have : ∀ e, e ≤ 6 → szB e ≤ 100000 := by decide
      exact this d hd
    rw [Val.t_mk] at hw hsl hdl ⊢
    have hit2 := hw.items
    rw [T.siz] at hsl
    rw [T.dep] at hdl
    rw [T.siz]
    refine Tri.vc [.val (Val.mk kind int text items iA ic keys kA kc).val] Tryz.func21 rfl Tryz.ntmps21 rfl rfl ?_
    conv => whnf
    intro b1
    conv => whnf
    obtain ⟨its, hits⟩ : ∃ its, its = items.map Val.t := ⟨_, rfl⟩
    have hil : its.length = items.length := by rw [hits, List.length_map]
    rw [← hits] at hsl hdl ⊢
    refine COK.loop (α := Nat) (fun i => [(1, .own 0 0), (3, .val (.int .i64 ((1 + sizs (its.take i) : Nat) : Int))), (7, .val (.slice iA items.length ic)), (8, .val (.int .i64 items.length)), (9, .val (.int .i64 i))]) (fun _ => [⟨b1, .cells (Val.mk kind int text items iA ic keys kA kc).cells 28 (0, 0)⟩]) (fun i _ => i ≤ items.length) (fun i => items.length - i) 0 [0] (Sub.of (by decide) rfl ⟨rfl, rfl, rfl, rfl, rfl, trivial⟩) (Nat.zero_le _) ?_
    intro i g1 hg1 hi1
    by_cases hlt : i < items.length
    · obtain ⟨x, hx⟩ : ∃ x, items[i]? = some x := ⟨_, List.getElem?_eq_getElem hlt⟩
      have hmem := List.mem_of_getElem? hx
      obtain ⟨d', hdd, hl4, hwi⟩ : ∃ d', d = d' + 1 ∧ items.length ≤ 4 ∧ ∀ x ∈ items, WF d' x.t := by
        rcases hit2 with h | h
        · rw [h] at hlt; simp at hlt
        · exact h
      have hT := ih x hmem d' g1 ((hit x hmem).mono hg1) (hwi x hmem) (by omega)
      have hxx : its[i]? = some x.t := by rw [hits, List.getElem?_map, hx]; rfl
      have hs1 := sizs_take hxx
      have hs2 := deps_take hxx
      have hle1 : sizs (its.take (i + 1)) ≤ sizs its := sizs_mono its (i + 1)
      have hle2 : deps (its.take (i + 1)) ≤ deps its := deps_mono its (i + 1)
      obtain ⟨a, rfl, hra⟩ := (hi.mono hg1).at_ Val.len hx
      obtain ⟨xk, xi, xt, xl, xA, xc, xs, xB, xd⟩ := x
      refine vcC_ok _ _ _ _ _ ?_
      conv => whnf
      refine ⟨fun _ => ?_, fun h1 => absurd (of_decide_eq_false h1) (by omega)⟩
      conv => whnf
      refine ⟨⟨by omega, by omega⟩, ?_⟩
      conv => whnf
      refine OOK.yn (YN.loads rfl rfl rfl hra ?_)
      conv => whnf
      intro b5
      conv => whnf
      refine OOK.call [] rfl rfl rfl (by kernel_rfl) rfl (hT) (by decide) rfl ?_
      rintro v_ g2 m_ hg2 ⟨rfl, rfl⟩
      conv => whnf
      refine ⟨i + 1, [0], Sub.of (by decide) rfl ⟨rfl, int_eq ?_, rfl, rfl, int_eq (i64_in (by omega) (by omega)), trivial⟩, hlt, by omega⟩
      rw [sizs_take hxx, i64_in (by omega) (by omega)]; push_cast; omega
    · have hid : i = items.length := by omega
      subst hid
      refine vcC_ok _ _ _ _ _ ?_
      conv => whnf
      refine ⟨fun h1 => absurd (of_decide_eq_true h1) (by omega), fun _ => ?_⟩
      conv => whnf
      have htk : its.take items.length = its := by rw [← hil, List.take_length]
      rw [htk]
      refine .mk ⟨_, [], _, rfl, by decide, rfl, trivial, ?_, rfl⟩
      exact sizs_fin its (by first | omega | exact .inr trivial)
theorem f_depth (v : Val) : ∀ (d : Nat) (g : GH), v.Ok g → WF d v.t → d ≤ 6 → Tri Tryz.prog 22 [v.val] g [] fun v' g' m' => v' = .int .i64 (T.dep v.t : Int) ∧ m' = [] := by
  induction v using Val.ind with
  | h kind int text items iA ic keys kA kc ih =>
    intro d g hv hw hd
    obtain ⟨hi, hk, hic, hkc, hb, hit⟩ := hv
    have hsl := siz_len _ d hw
    have hdl := dep_len _ d hw
    have hB : szB d ≤ 100000 := by
      have : ∀ e, e ≤ 6 → szB e ≤ 100000 := by decide
      exact this d hd
    rw [Val.t_mk] at hw hsl hdl ⊢
    have hit2 := hw.items
    rw [T.siz] at hsl
    rw [T.dep] at hdl
    rw [T.dep]
    refine Tri.vc [.val (Val.mk kind int text items iA ic keys kA kc).val] Tryz.func22 rfl Tryz.ntmps22 rfl rfl ?_
    conv => whnf
    intro b1
    conv => whnf
    obtain ⟨its, hits⟩ : ∃ its, its = items.map Val.t := ⟨_, rfl⟩
    have hil : its.length = items.length := by rw [hits, List.length_map]
    rw [← hits] at hsl hdl ⊢
    refine COK.loop (α := Nat) (fun i => [(1, .own 0 0), (3, .val (.int .i64 ((0 + deps (its.take i) : Nat) : Int))), (7, .val (.slice iA items.length ic)), (8, .val (.int .i64 items.length)), (9, .val (.int .i64 i))]) (fun _ => [⟨b1, .cells (Val.mk kind int text items iA ic keys kA kc).cells 28 (0, 0)⟩]) (fun i _ => i ≤ items.length) (fun i => items.length - i) 0 [0] (Sub.of (by decide) rfl ⟨rfl, rfl, rfl, rfl, rfl, trivial⟩) (Nat.zero_le _) ?_
    intro i g1 hg1 hi1
    by_cases hlt : i < items.length
    · obtain ⟨x, hx⟩ : ∃ x, items[i]? = some x := ⟨_, List.getElem?_eq_getElem hlt⟩
      have hmem := List.mem_of_getElem? hx
      obtain ⟨d', hdd, hl4, hwi⟩ : ∃ d', d = d' + 1 ∧ items.length ≤ 4 ∧ ∀ x ∈ items, WF d' x.t := by
        rcases hit2 with h | h
        · rw [h] at hlt; simp at hlt
        · exact h
      have hT := ih x hmem d' g1 ((hit x hmem).mono hg1) (hwi x hmem) (by omega)
      have hxx : its[i]? = some x.t := by rw [hits, List.getElem?_map, hx]; rfl
      have hs1 := sizs_take hxx
      have hs2 := deps_take hxx
      have hle1 : sizs (its.take (i + 1)) ≤ sizs its := sizs_mono its (i + 1)
      have hle2 : deps (its.take (i + 1)) ≤ deps its := deps_mono its (i + 1)
      obtain ⟨a, rfl, hra⟩ := (hi.mono hg1).at_ Val.len hx
      obtain ⟨xk, xi, xt, xl, xA, xc, xs, xB, xd⟩ := x
      refine vcC_ok _ _ _ _ _ ?_
      conv => whnf
      refine ⟨fun _ => ?_, fun h1 => absurd (of_decide_eq_false h1) (by omega)⟩
      conv => whnf
      refine ⟨⟨by omega, by omega⟩, ?_⟩
      conv => whnf
      refine OOK.yn (YN.loads rfl rfl rfl hra ?_)
      conv => whnf
      intro b5
      conv => whnf
      refine OOK.call [] rfl rfl rfl (by kernel_rfl) rfl (hT) (by decide) rfl ?_
      rintro v_ g2 m_ hg2 ⟨rfl, rfl⟩
      conv => whnf
      refine ⟨i + 1, [0], Sub.of (by decide) rfl ⟨rfl, int_eq ?_, rfl, rfl, int_eq (i64_in (by omega) (by omega)), trivial⟩, hlt, by omega⟩
      rw [deps_take hxx]; show maxI _ _ = _; unfold maxI; split <;> omega
    · have hid : i = items.length := by omega
      subst hid
      refine vcC_ok _ _ _ _ _ ?_
      conv => whnf
      refine ⟨fun h1 => absurd (of_decide_eq_true h1) (by omega), fun _ => ?_⟩
      conv => whnf
      have htk : its.take items.length = its := by rw [← hil, List.take_length]
      rw [htk]
      refine .mk ⟨_, [], _, rfl, by decide, rfl, trivial, ?_, rfl⟩
      exact deps_fin its (by first | omega | exact .inr trivial)
end Go.Proofs.YthkfnmmbjoadbaaGreatDoor
/- WholeTexts: a payload is well formed. -/
-- INST THM=f_idxV;FUN=slices.IndexFunc[[]workflow/api.Value,workflow/api.Value];AL=Val;ENC=Val.cells;LEN=Val.len;VAL=x.val;CT=f_contV;CF=slices.ContainsFunc[[]workflow/api.Value,workflow/api.Value];LD=YN.loads rfl rfl rfl hra ?_;DES=obtain ⟨xk, xi, xt, xl, xA, xc, xs, xB, xd⟩ := x
-- INST THM=f_idxS;FUN=slices.IndexFunc[[]string,string];AL=(List UInt8);ENC=encK;LEN=encK_len;VAL=.string (str x);CT=f_contS;CF=slices.ContainsFunc[[]string,string];LD=YN.load rfl rfl rfl (v := .string (str x)) (Reads.at0 hra) ?_;DES=skip
set_option linter.unusedVariables false
set_option linter.unusedSimpArgs false
set_option maxRecDepth 100000
namespace Go.Proofs.YthkfnmmbjoadbaaGreatDoor
open Go Go.SX

theorem f_idxV (g : GH) (f : FuncId) (cap : Array Value) (A : Option Addr) (c : Nat) (l : List Val) (hA : Row g Val.cells A l) (hl : l.length ≤ 1000)
    (h : ∀ x ∈ l, ∀ g1, g.le g1 → calleeOk Tryz.prog f = true ∧ Tri Tryz.prog f (x.val :: cap.toList) g1 [] fun v g' m' => v = .bool false ∧ m' = []) :
    Tri Tryz.prog 113 [.slice A l.length c, .func (.func f) #[] cap] g [] fun v g' m' => v = .int .i64 (-1) ∧ m' = [] := by
  refine Tri.vc [.val (.slice A l.length c), .val (.func (.func f) #[] cap)] Tryz.func113 rfl Tryz.ntmps113 rfl rfl ?_
  conv => whnf
  refine COK.loop (α := Nat) (fun i => [(0, .val (.slice A l.length c)), (1, .val (.func (.func f) #[] cap)), (7, .val (.int .i64 l.length)), (8, .val (.int .i64 i))]) (fun _ => []) (fun i _ => i ≤ l.length) (fun i => l.length - i) 0 [] (Sub.of (by decide) rfl ⟨rfl, rfl, rfl, rfl, trivial⟩) (Nat.zero_le _) ?_
  intro i g1 hg1 hi
  by_cases hlt : i < l.length
  · obtain ⟨x, hx⟩ : ∃ x, l[i]? = some x := ⟨_, List.getElem?_eq_getElem hlt⟩
    obtain ⟨hok, hT⟩ := h x (List.mem_of_getElem? hx) g1 hg1
    obtain ⟨a, rfl, hra⟩ := (hA.mono hg1).at_ Val.len hx
    obtain ⟨xk, xi, xt, xl, xA, xc, xs, xB, xd⟩ := x
    refine vcC_ok _ _ _ _ _ ?_
    conv => whnf
    refine ⟨fun _ => ?_, fun h1 => absurd h1 (by simp [hlt])⟩
    conv => whnf
    refine ⟨⟨by omega, by omega⟩, ?_⟩
    conv => whnf
    refine OOK.yn (YN.loads rfl rfl rfl hra ?_)
    conv => whnf
    refine OOK.call [] rfl rfl rfl hok rfl hT (by decide) rfl ?_
    rintro v_ g2 m_ hg2 ⟨rfl, rfl⟩
    conv => whnf
    refine ⟨(by intro q; cases q), fun _ => ?_⟩
    conv => whnf
    exact ⟨i + 1, [], Sub.of (by decide) rfl ⟨rfl, rfl, rfl, int_eq (i64_in (by omega) (by omega)), trivial⟩, hlt, by omega⟩
  · refine vcC_ok _ _ _ _ _ ?_
    conv => whnf
    refine ⟨fun h1 => absurd h1 (by simp [hlt]), fun _ => ?_⟩
    conv => whnf
    exact .mk ⟨_, [], _, rfl, by decide, rfl, trivial, rfl, rfl⟩
theorem f_contV (g : GH) (f : FuncId) (cap : Array Value) (A : Option Addr) (c : Nat) (l : List Val) (hA : Row g Val.cells A l) (hl : l.length ≤ 1000)
    (h : ∀ x ∈ l, ∀ g1, g.le g1 → calleeOk Tryz.prog f = true ∧ Tri Tryz.prog f (x.val :: cap.toList) g1 [] fun v g' m' => v = .bool false ∧ m' = []) :
    Tri Tryz.prog 83 [.slice A l.length c, .func (.func f) #[] cap] g [] fun v g' m' => v = .bool false ∧ m' = [] := by
  refine Tri.vc [.val (.slice A l.length c), .val (.func (.func f) #[] cap)] Tryz.func83 rfl Tryz.ntmps83 rfl rfl ?_
  conv => whnf
  refine OOK.call [] rfl rfl rfl (by kernel_rfl) rfl (f_idxV g f cap A c l hA hl h) (by decide) rfl ?_
  rintro v_ g1 m_ hg1 ⟨rfl, rfl⟩
  conv => whnf
  exact .mk ⟨_, [], _, rfl, by decide, rfl, trivial, rfl, rfl⟩
theorem f_idxS (g : GH) (f : FuncId) (cap : Array Value) (A : Option Addr) (c : Nat) (l : List (List UInt8)) (hA : Row g encK A l) (hl : l.length ≤ 1000)
    (h : ∀ x ∈ l, ∀ g1, g.le g1 → calleeOk Tryz.prog f = true ∧ Tri Tryz.prog f (.string (str x) :: cap.toList) g1 [] fun v g' m' => v = .bool false ∧ m' = []) :
    Tri Tryz.prog 151 [.slice A l.length c, .func (.func f) #[] cap] g [] fun v g' m' => v = .int .i64 (-1) ∧ m' = [] := by
  refine Tri.vc [.val (.slice A l.length c), .val (.func (.func f) #[] cap)] Tryz.func151 rfl Tryz.ntmps151 rfl rfl ?_
  conv => whnf
  refine COK.loop (α := Nat) (fun i => [(0, .val (.slice A l.length c)), (1, .val (.func (.func f) #[] cap)), (7, .val (.int .i64 l.length)), (8, .val (.int .i64 i))]) (fun _ => []) (fun i _ => i ≤ l.length) (fun i => l.length - i) 0 [] (Sub.of (by decide) rfl ⟨rfl, rfl, rfl, rfl, trivial⟩) (Nat.zero_le _) ?_
  intro i g1 hg1 hi
  by_cases hlt : i < l.length
  · obtain ⟨x, hx⟩ : ∃ x, l[i]? = some x := ⟨_, List.getElem?_eq_getElem hlt⟩
    obtain ⟨hok, hT⟩ := h x (List.mem_of_getElem? hx) g1 hg1
    obtain ⟨a, rfl, hra⟩ := (hA.mono hg1).at_ encK_len hx
    skip
    refine vcC_ok _ _ _ _ _ ?_
    conv => whnf
    refine ⟨fun _ => ?_, fun h1 => absurd h1 (by simp [hlt])⟩
    conv => whnf
    refine ⟨⟨by omega, by omega⟩, ?_⟩
    conv => whnf
    refine OOK.yn (YN.load rfl rfl rfl (v := .string (str x)) (Reads.at0 hra) ?_)
    conv => whnf
    refine OOK.call [] rfl rfl rfl hok rfl hT (by decide) rfl ?_
    rintro v_ g2 m_ hg2 ⟨rfl, rfl⟩
    conv => whnf
    refine ⟨(by intro q; cases q), fun _ => ?_⟩
    conv => whnf
    exact ⟨i + 1, [], Sub.of (by decide) rfl ⟨rfl, rfl, rfl, int_eq (i64_in (by omega) (by omega)), trivial⟩, hlt, by omega⟩
  · refine vcC_ok _ _ _ _ _ ?_
    conv => whnf
    refine ⟨fun h1 => absurd h1 (by simp [hlt]), fun _ => ?_⟩
    conv => whnf
    exact .mk ⟨_, [], _, rfl, by decide, rfl, trivial, rfl, rfl⟩
theorem f_contS (g : GH) (f : FuncId) (cap : Array Value) (A : Option Addr) (c : Nat) (l : List (List UInt8)) (hA : Row g encK A l) (hl : l.length ≤ 1000)
    (h : ∀ x ∈ l, ∀ g1, g.le g1 → calleeOk Tryz.prog f = true ∧ Tri Tryz.prog f (.string (str x) :: cap.toList) g1 [] fun v g' m' => v = .bool false ∧ m' = []) :
    Tri Tryz.prog 128 [.slice A l.length c, .func (.func f) #[] cap] g [] fun v g' m' => v = .bool false ∧ m' = [] := by
  refine Tri.vc [.val (.slice A l.length c), .val (.func (.func f) #[] cap)] Tryz.func128 rfl Tryz.ntmps128 rfl rfl ?_
  conv => whnf
  refine OOK.call [] rfl rfl rfl (by kernel_rfl) rfl (f_idxS g f cap A c l hA hl h) (by decide) rfl ?_
  rintro v_ g1 m_ hg1 ⟨rfl, rfl⟩
  conv => whnf
  exact .mk ⟨_, [], _, rfl, by decide, rfl, trivial, rfl, rfl⟩
theorem f_short1 (g : GH) (s : List UInt8) (hs : s.length ≤ 4096) : Tri Tryz.prog 129 [.string (str s)] g [] fun v g' m' => v = .bool false ∧ m' = [] := by
  refine Tri.vc [.val (.string (str s))] Tryz.func129 rfl Tryz.ntmps129 rfl rfl ?_
  conv => whnf
  refine .mk ⟨_, [], _, rfl, by decide, rfl, trivial, ?_, rfl⟩
  show Value.bool (decide (((str s).size : Int) > 4096)) = _
  rw [str_size, decide_eq_false (by omega)]
theorem WF.keys {d : Nat} {kind int : Int} {text : List UInt8} {its : List T} {keys : List (List UInt8)} (h : WF d (.mk kind int text its keys)) : text.length ≤ 6 ∧ ∀ k ∈ keys, k.length ≤ 6 := by
  rcases h.inv with ⟨_, _, rfl, _, rfl⟩ | ⟨_, _, rfl, _, rfl⟩ | ⟨_, _, _, rfl, _, rfl⟩ | ⟨_, _, h6, _, rfl⟩ | ⟨d', _, _, _, rfl, rfl, _, _⟩ | ⟨d', _, _, _, rfl, _, _, _, h6, _⟩
  · exact ⟨by simp, by simp⟩
  · exact ⟨by simp, by simp⟩
  · exact ⟨by simp, by simp⟩
  · exact ⟨h6, by simp⟩
  · exact ⟨by simp, by simp⟩
  · exact ⟨by simp, h6⟩
theorem f_short2 (g : GH) (x : Val) (h : Tri Tryz.prog 111 [x.val] g [] fun v g' m' => v = .bool true ∧ m' = []) : Tri Tryz.prog 130 [x.val] g [] fun v g' m' => v = .bool false ∧ m' = [] := by
  obtain ⟨xk, xi, xt, xl, xA, xc, xs, xB, xd⟩ := x
  refine Tri.vc [.val (Val.mk xk xi xt xl xA xc xs xB xd).val] Tryz.func130 rfl Tryz.ntmps130 rfl rfl ?_
  conv => whnf
  intro b1
  conv => whnf
  refine OOK.call [] rfl rfl rfl (by kernel_rfl) rfl (h) (by decide) rfl ?_
  rintro v_ g1 m_ hg1 ⟨rfl, rfl⟩
  conv => whnf
  exact .mk ⟨_, [], _, rfl, by decide, rfl, trivial, rfl, rfl⟩
theorem f_short (v : Val) : ∀ (d : Nat) (g : GH), v.Ok g → WF d v.t → Tri Tryz.prog 111 [v.val] g [] fun v' g' m' => v' = .bool true ∧ m' = [] := by
  induction v using Val.ind with
  | h kind int text items iA ic keys kA kc ih =>
    intro d g hv hw
    obtain ⟨hi, hk, hic, hkc, hb, hit⟩ := hv
    rw [Val.t_mk] at hw
    have hit2 := hw.items
    obtain ⟨htx, hkx⟩ := hw.keys
    refine Tri.vc [.val (Val.mk kind int text items iA ic keys kA kc).val] Tryz.func111 rfl Tryz.ntmps111 rfl rfl ?_
    conv => whnf
    intro b1
    conv => whnf
    refine ⟨fun q => absurd (of_decide_eq_true q) (by rw [str_size]; omega), fun _ => ?_⟩
    conv => whnf
    refine OOK.call [] rfl rfl rfl (by kernel_rfl) rfl (f_contS g 129 #[] kA kc keys hk hb.2 (fun x hx g1 hg1 => ⟨by kernel_rfl, f_short1 g1 x (by have := hkx x hx; omega)⟩)) (by decide) rfl ?_
    rintro v_ g1 m_ hg1 ⟨rfl, rfl⟩
    conv => whnf
    refine ⟨(by intro q; cases q), fun _ => ?_⟩
    conv => whnf
    have hsub : ∀ x ∈ items, ∀ g2, g1.le g2 → calleeOk Tryz.prog 130 = true ∧ Tri Tryz.prog 130 (x.val :: (#[] : Array Value).toList) g2 [] fun v g' m' => v = .bool false ∧ m' = [] := fun x hx g2 hg2 => ⟨by kernel_rfl, f_short2 g2 x (by
      rcases hit2 with h | ⟨d', _, _, hwi⟩
      · rw [h] at hx; simp at hx
      · exact ih x hx d' g2 ((hit x hx).mono (hg1.trans hg2)) (hwi x hx))⟩
    refine OOK.call [] rfl rfl rfl (by kernel_rfl) rfl (f_contV g1 130 #[] iA ic items (hi.mono hg1) hb.1 hsub) (by decide) rfl ?_
    rintro v_ g2 m_ hg2 ⟨rfl, rfl⟩
    conv => whnf
    exact .mk ⟨_, [], _, rfl, by decide, rfl, trivial, rfl, rfl⟩
theorem f_asc (g : GH) (A : Option Addr) (c : Nat) (l : List (List UInt8)) (hA : Row g encK A l) (hl : l.length ≤ 1000) (hs : Asc l) :
    Tri Tryz.prog 82 [.slice A l.length c] g [] fun v g' m' => v = .bool true ∧ m' = [] := by
  refine Tri.vc [.val (.slice A l.length c)] Tryz.func82 rfl Tryz.ntmps82 rfl rfl ?_
  conv => whnf
  refine COK.loop (α := Nat) (fun i => [(0, .val (.slice A l.length c)), (3, .val (.int .i64 ((i + 1 : Nat) : Int)))]) (fun _ => []) (fun i _ => i ≤ l.length) (fun i => l.length - i) 0 [] (Sub.of (by decide) rfl ⟨rfl, rfl, trivial⟩) (Nat.zero_le _) ?_
  intro i g1 hg1 hi
  by_cases hlt : i + 1 < l.length
  · obtain ⟨x, hx⟩ : ∃ x, l[i]? = some x := ⟨_, List.getElem?_eq_getElem (by omega)⟩
    obtain ⟨y, hy⟩ : ∃ y, l[i + 1]? = some y := ⟨_, List.getElem?_eq_getElem hlt⟩
    have hxy := hs.lt hx hy (by omega)
    obtain ⟨a, rfl, hra⟩ := (hA.mono hg1).at_ encK_len hx
    obtain ⟨b, hb, hrb⟩ := (hA.mono hg1).at_ encK_len hy
    obtain rfl := Option.some.inj hb
    have hw : IntKind.i64.wrap (((i + 1 : Nat) : Int) - 1) = (i : Int) := by rw [i64_in (by omega) (by omega)]; omega
    refine vcC_ok _ _ _ _ _ ?_
    conv => whnf
    refine ⟨fun _ => ?_, fun h1 => absurd (of_decide_eq_false h1) (by omega)⟩
    conv => whnf
    refine COK.quiet (by kernel_rfl) (by kernel_rfl) ?_
    conv => whnf
    rw [hw]
    refine ⟨⟨by omega, by omega⟩, ?_⟩
    conv => whnf
    refine YN.load rfl rfl rfl (v := .string (str x)) (Reads.at0 hra) ?_
    conv => whnf
    refine ⟨⟨by omega, by omega⟩, ?_⟩
    conv => whnf
    refine YN.load rfl rfl rfl (v := .string (str y)) (Reads.at0 hrb) ?_
    conv => whnf
    refine ⟨fun q => absurd q (by rw [str_less, decide_eq_true hxy]; decide), fun _ => ?_⟩
    conv => whnf
    exact ⟨i + 1, [], Sub.of (by decide) rfl ⟨rfl, int_eq (i64_in (by omega) (by omega)), trivial⟩, by omega, by omega⟩
  · refine vcC_ok _ _ _ _ _ ?_
    conv => whnf
    refine ⟨fun h1 => absurd (of_decide_eq_true h1) (by omega), fun _ => ?_⟩
    conv => whnf
    exact .mk ⟨_, [], _, rfl, by decide, rfl, trivial, rfl, rfl⟩
theorem strE : (str []).toList = [] := str_list []
theorem f_formed1 (g : GH) (x : Val) (b : Nat) (fut : Bool) (hb : cellG g ⟨b, 0, none⟩ = some (.bool fut)) (h : Tri Tryz.prog 48 [x.val, .bool fut] g [] fun v g' m' => v = .bool true ∧ m' = []) : Tri Tryz.prog 84 [x.val, .pointer (some ⟨b, 0, none⟩)] g [] fun v g' m' => v = .bool false ∧ m' = [] := by
  obtain ⟨xk, xi, xt, xl, xA, xc, xs, xB, xd⟩ := x
  refine Tri.vc [.val (Val.mk xk xi xt xl xA xc xs xB xd).val, .val (.pointer (some ⟨b, 0, none⟩))] Tryz.func84 rfl Tryz.ntmps84 rfl rfl ?_
  conv => whnf
  intro b1
  conv => whnf
  refine OOK.yn (YN.load rfl rfl rfl hb ?_)
  conv => whnf
  refine OOK.call [] rfl rfl rfl (by kernel_rfl) rfl (h) (by decide) rfl ?_
  rintro v_ g1 m_ hg1 ⟨rfl, rfl⟩
  conv => whnf
  exact .mk ⟨_, [], _, rfl, by decide, rfl, trivial, rfl, rfl⟩
theorem f_formed (v : Val) : ∀ (d : Nat) (g : GH) (fut : Bool), v.Ok g → WF d v.t → Tri Tryz.prog 48 [v.val, .bool fut] g [] fun v' g' m' => v' = .bool true ∧ m' = [] := by
  induction v using Val.ind with
  | h kind int text items iA ic keys kA kc ih =>
    intro d g fut hv hw
    obtain ⟨hi, hk, hic, hkc, hb, hit⟩ := hv
    rw [Val.t_mk] at hw
    have hit2 := hw.items
    have hinv := hw.inv
    rw [List.length_map] at hinv
    refine Tri.vc [.val (Val.mk kind int text items iA ic keys kA kc).val, .val (.bool fut)] Tryz.func48 rfl Tryz.ntmps48 rfl rfl ?_
    conv => whnf
    intro b2
    conv => whnf
    intro b3
    conv => whnf
    rcases hinv with ⟨rfl, rfl, rfl, he, rfl⟩ | ⟨rfl, hi1, rfl, he, rfl⟩ | ⟨rfl, h1, h2, rfl, he, rfl⟩ | ⟨rfl, rfl, h6, he, rfl⟩ | ⟨d', rfl, rfl, rfl, rfl, rfl, hl, hwi⟩ | ⟨d', rfl, rfl, rfl, rfl, hkl, hl, hs, h6, hwi⟩
    · obtain rfl := map_nil he
      refine ⟨fun _ => ?_, fun q => absurd q (by first | decide | simp [strE])⟩
      conv => whnf
      refine ⟨fun _ => ?_, fun q => absurd q (by first | decide | simp [strE])⟩
      conv => whnf
      refine ⟨fun _ => ?_, fun q => absurd q (by first | decide | simp [strE])⟩
      conv => whnf
      refine ⟨fun _ => ?_, fun q => absurd q (by first | decide | simp [strE])⟩
      conv => whnf
      exact .mk ⟨_, [], _, rfl, by decide, rfl, trivial, rfl, rfl⟩
    · obtain rfl := map_nil he
      rcases hi1 with rfl | rfl
      · refine ⟨fun q => absurd q (by first | decide | simp [strE]), fun _ => ?_⟩
        conv => whnf
        refine ⟨fun _ => ?_, fun q => absurd q (by first | decide | simp [strE])⟩
        conv => whnf
        refine ⟨fun _ => ?_, fun q => absurd q (by first | decide | simp [strE])⟩
        conv => whnf
        refine ⟨fun _ => ?_, fun q => absurd q (by first | decide | simp [strE])⟩
        conv => whnf
        refine ⟨fun _ => ?_, fun q => absurd q (by first | decide | simp [strE])⟩
        conv => whnf
        exact .mk ⟨_, [], _, rfl, by decide, rfl, trivial, rfl, rfl⟩
      · refine ⟨fun q => absurd q (by first | decide | simp [strE]), fun _ => ?_⟩
        conv => whnf
        refine ⟨fun _ => ?_, fun q => absurd q (by first | decide | simp [strE])⟩
        conv => whnf
        refine ⟨fun q => absurd q (by first | decide | simp [strE]), fun _ => ?_⟩
        conv => whnf
        refine ⟨fun _ => ?_, fun q => absurd q (by first | decide | simp [strE])⟩
        conv => whnf
        refine ⟨fun _ => ?_, fun q => absurd q (by first | decide | simp [strE])⟩
        conv => whnf
        refine ⟨fun _ => ?_, fun q => absurd q (by first | decide | simp [strE])⟩
        conv => whnf
        exact .mk ⟨_, [], _, rfl, by decide, rfl, trivial, rfl, rfl⟩
    · obtain rfl := map_nil he
      refine ⟨fun q => absurd q (by first | decide | simp [strE]), fun _ => ?_⟩
      conv => whnf
      refine ⟨fun q => absurd q (by first | decide | simp [strE]), fun _ => ?_⟩
      conv => whnf
      refine ⟨fun _ => ?_, fun q => absurd q (by first | decide | simp [strE])⟩
      conv => whnf
      refine ⟨fun _ => ?_, fun q => absurd q (by first | decide | simp [strE])⟩
      conv => whnf
      refine ⟨fun _ => ?_, fun q => absurd q (by first | decide | simp [strE])⟩
      conv => whnf
      exact .mk ⟨_, [], _, rfl, by decide, rfl, trivial, rfl, rfl⟩
    · obtain rfl := map_nil he
      refine ⟨fun q => absurd q (by first | decide | simp [strE]), fun _ => ?_⟩
      conv => whnf
      refine ⟨fun q => absurd q (by first | decide | simp [strE]), fun _ => ?_⟩
      conv => whnf
      refine ⟨fun q => absurd q (by first | decide | simp [strE]), fun _ => ?_⟩
      conv => whnf
      refine ⟨fun q => absurd q (by first | decide | simp [strE]), fun _ => ?_⟩
      conv => whnf
      refine ⟨fun _ => ?_, fun q => absurd q (by first | decide | simp [strE])⟩
      conv => whnf
      refine ⟨fun _ => ?_, fun q => absurd q (by first | decide | simp [strE])⟩
      conv => whnf
      refine ⟨fun _ => ?_, fun q => absurd q (by first | decide | simp [strE])⟩
      conv => whnf
      exact .mk ⟨_, [], _, rfl, by decide, rfl, trivial, rfl, rfl⟩
    · refine ⟨fun q => absurd q (by first | decide | simp [strE]), fun _ => ?_⟩
      conv => whnf
      refine ⟨fun q => absurd q (by first | decide | simp [strE]), fun _ => ?_⟩
      conv => whnf
      refine ⟨fun q => absurd q (by first | decide | simp [strE]), fun _ => ?_⟩
      conv => whnf
      refine ⟨fun q => absurd q (by first | decide | simp [strE]), fun _ => ?_⟩
      conv => whnf
      refine ⟨fun q => absurd q (by first | decide | simp [strE]), fun _ => ?_⟩
      conv => whnf
      refine ⟨fun _ => ?_, fun q => absurd q (by first | decide | simp [strE])⟩
      conv => whnf
      refine ⟨fun q => absurd q (by first | decide | simp [strE]), fun _ => ?_⟩
      conv => whnf
      refine ⟨fun q => absurd q (by first | decide | simp [strE]), fun _ => ?_⟩
      conv => whnf
      refine ⟨fun q => absurd q (by first | decide | simp [strE]), fun _ => ?_⟩
      conv => whnf
      refine OOK.freeze 1 rfl rfl fun g2 hg2 hb3 => ?_
      have hg02 := hg2
      have hcell : cellG g2 ⟨b3, 0, none⟩ = some (.bool fut) := by simp only [cellG, hb3]; rfl
      have hsub : ∀ x ∈ items, ∀ g3, g2.le g3 → calleeOk Tryz.prog 84 = true ∧ Tri Tryz.prog 84 (x.val :: (#[.pointer (some ⟨b3, 0, none⟩)] : Array Value).toList) g3 [] fun v g' m' => v = .bool false ∧ m' = [] := fun x hx g3 hg3 => ⟨by kernel_rfl, f_formed1 g3 x b3 fut (cellG_mono hg3 hcell) (ih x hx d' g3 fut ((hit x hx).mono (hg02.trans hg3)) (hwi _ (List.mem_map_of_mem hx)))⟩
      refine OOK.call [] rfl rfl rfl (by kernel_rfl) rfl (f_contV g2 84 #[.pointer (some ⟨b3, 0, none⟩)] iA ic items (hi.mono hg02) hb.1 hsub) (by decide) rfl ?_
      rintro v_ g4 m_ hg4 ⟨rfl, rfl⟩
      conv => whnf
      exact .mk ⟨_, [], _, rfl, by decide, rfl, trivial, rfl, rfl⟩
    · refine ⟨fun q => absurd q (by first | decide | simp [strE]), fun _ => ?_⟩
      conv => whnf
      refine ⟨fun q => absurd q (by first | decide | simp [strE]), fun _ => ?_⟩
      conv => whnf
      refine ⟨fun q => absurd q (by first | decide | simp [strE]), fun _ => ?_⟩
      conv => whnf
      refine ⟨fun q => absurd q (by first | decide | simp [strE]), fun _ => ?_⟩
      conv => whnf
      refine ⟨fun q => absurd q (by first | decide | simp [strE]), fun _ => ?_⟩
      conv => whnf
      refine ⟨fun q => absurd q (by first | decide | simp [strE]), fun _ => ?_⟩
      conv => whnf
      refine ⟨fun _ => ?_, fun q => absurd q (by first | decide | simp [strE])⟩
      conv => whnf
      refine ⟨fun q => absurd q (by first | decide | simp [strE]), fun _ => ?_⟩
      conv => whnf
      refine ⟨fun q => absurd q (by first | decide | simp [strE]), fun _ => ?_⟩
      conv => whnf
      refine ⟨fun q => absurd q (by rw [hkl]; simp), fun _ => ?_⟩
      conv => whnf
      refine OOK.call [] rfl rfl rfl (by kernel_rfl) rfl (f_asc g kA kc keys hk hb.2 hs) (by decide) rfl ?_
      rintro v_ g1 m_ hg1 ⟨rfl, rfl⟩
      conv => whnf
      refine ⟨(by intro q; cases q), fun _ => ?_⟩
      conv => whnf
      refine OOK.freeze 1 rfl rfl fun g2 hg2 hb3 => ?_
      have hg02 := hg1.trans hg2
      have hcell : cellG g2 ⟨b3, 0, none⟩ = some (.bool fut) := by simp only [cellG, hb3]; rfl
      have hsub : ∀ x ∈ items, ∀ g3, g2.le g3 → calleeOk Tryz.prog 84 = true ∧ Tri Tryz.prog 84 (x.val :: (#[.pointer (some ⟨b3, 0, none⟩)] : Array Value).toList) g3 [] fun v g' m' => v = .bool false ∧ m' = [] := fun x hx g3 hg3 => ⟨by kernel_rfl, f_formed1 g3 x b3 fut (cellG_mono hg3 hcell) (ih x hx d' g3 fut ((hit x hx).mono (hg02.trans hg3)) (hwi _ (List.mem_map_of_mem hx)))⟩
      refine OOK.call [] rfl rfl rfl (by kernel_rfl) rfl (f_contV g2 84 #[.pointer (some ⟨b3, 0, none⟩)] iA ic items (hi.mono hg02) hb.1 hsub) (by decide) rfl ?_
      rintro v_ g4 m_ hg4 ⟨rfl, rfl⟩
      conv => whnf
      exact .mk ⟨_, [], _, rfl, by decide, rfl, trivial, rfl, rfl⟩
theorem f_within (v : Val) (d : Nat) (g : GH) (hv : v.Ok g) (hw : WF d v.t) (hd : d ≤ 4) : Tri Tryz.prog 78 [v.val] g [] fun v' g' m' => v' = .bool true ∧ m' = [] := by
  have h1 := siz_len _ d hw
  have h2 := dep_len _ d hw
  have h3 : szB d ≤ 341 := by
    have : ∀ e, e ≤ 4 → szB e ≤ 341 := by decide
    exact this d hd
  have t1 := fun g' (hg' : g.le g') => f_depth v d g' (hv.mono hg') hw (by omega)
  have t2 := fun g' (hg' : g.le g') => f_size v d g' (hv.mono hg') hw (by omega)
  have t3 := fun g' (hg' : g.le g') => f_short v d g' (hv.mono hg') hw
  generalize v.t.siz = sz at *
  generalize v.t.dep = dp at *
  obtain ⟨xk, xi, xt, xl, xA, xc, xs, xB, xd⟩ := v
  refine Tri.vc [.val (Val.mk xk xi xt xl xA xc xs xB xd).val] Tryz.func78 rfl Tryz.ntmps78 rfl rfl ?_
  conv => whnf
  intro b1
  conv => whnf
  refine OOK.call [] rfl rfl rfl (by kernel_rfl) rfl (t1 g (.refl _)) (by decide) rfl ?_
  rintro v_ g1 m_ hg1 ⟨rfl, rfl⟩
  conv => whnf
  refine ⟨fun _ => ?_, fun q => absurd (of_decide_eq_false q) (by omega)⟩
  conv => whnf
  refine OOK.call [] rfl rfl rfl (by kernel_rfl) rfl (t2 g1 hg1) (by decide) rfl ?_
  rintro v_ g2 m_ hg2 ⟨rfl, rfl⟩
  conv => whnf
  refine ⟨fun _ => ?_, fun q => absurd (of_decide_eq_false q) (by omega)⟩
  conv => whnf
  refine OOK.call [] rfl rfl rfl (by kernel_rfl) rfl (t3 g2 (hg1.trans hg2)) (by decide) rfl ?_
  rintro v_ g3 m_ hg3 ⟨rfl, rfl⟩
  conv => whnf
  exact .mk ⟨_, [], _, rfl, by decide, rfl, trivial, rfl, rfl⟩
theorem f_right (v : Val) (d : Nat) (g : GH) (hv : v.Ok g) (hw : WF d v.t) (hd : d ≤ 4) : Tri Tryz.prog 42 [v.val] g [] fun v' g' m' => v' = .bool true ∧ m' = [] := by
  have t1 := f_within v d g hv hw hd
  have t2 := fun g' (hg' : g.le g') => f_formed v d g' false (hv.mono hg') hw
  obtain ⟨xk, xi, xt, xl, xA, xc, xs, xB, xd⟩ := v
  refine Tri.vc [.val (Val.mk xk xi xt xl xA xc xs xB xd).val] Tryz.func42 rfl Tryz.ntmps42 rfl rfl ?_
  conv => whnf
  intro b1
  conv => whnf
  refine OOK.call [] rfl rfl rfl (by kernel_rfl) rfl (t1) (by decide) rfl ?_
  rintro v_ g1 m_ hg1 ⟨rfl, rfl⟩
  conv => whnf
  refine ⟨fun _ => ?_, (by intro q; cases q)⟩
  conv => whnf
  refine OOK.call [] rfl rfl rfl (by kernel_rfl) rfl (t2 g1 hg1) (by decide) rfl ?_
  rintro v_ g2 m_ hg2 ⟨rfl, rfl⟩
  conv => whnf
  exact .mk ⟨_, [], _, rfl, by decide, rfl, trivial, rfl, rfl⟩
theorem f_print (v : Val) (d : Nat) (g : GH) (hv : v.Ok g) (hw : WF d v.t) (hd : d ≤ 4) (ht : TabG g) : Tri Tryz.prog 12 [v.val] g [] fun v' g' m' => v' = .tuple #[.string (str v.t.txt), .int .i64 0] ∧ m' = [] := by
  have t1 := f_right v d g hv hw hd
  have t2 := fun g' (hg' : g.le g') => f_vtext v d g' (hv.mono hg') hw (by omega) (ht.mono hg')
  generalize v.t.txt = tx at *
  obtain ⟨xk, xi, xt, xl, xA, xc, xs, xB, xd⟩ := v
  refine Tri.vc [.val (Val.mk xk xi xt xl xA xc xs xB xd).val] Tryz.func12 rfl Tryz.ntmps12 rfl rfl ?_
  conv => whnf
  intro b1
  conv => whnf
  refine OOK.call [] rfl rfl rfl (by kernel_rfl) rfl (t1) (by decide) rfl ?_
  rintro v_ g1 m_ hg1 ⟨rfl, rfl⟩
  conv => whnf
  refine ⟨(by intro q; cases q), fun _ => ?_⟩
  conv => whnf
  refine OOK.call [] rfl rfl rfl (by kernel_rfl) rfl (t2 g1 hg1) (by decide) rfl ?_
  rintro v_ g2 m_ hg2 ⟨rfl, rfl⟩
  conv => whnf
  exact .mk ⟨_, [], _, rfl, by decide, rfl, trivial, rfl, rfl⟩
end Go.Proofs.YthkfnmmbjoadbaaGreatDoor
/- WholeTexts: loomSize. -/
set_option linter.unusedVariables false
set_option linter.unusedSimpArgs false
set_option maxRecDepth 100000
namespace Go.Proofs.YthkfnmmbjoadbaaGreatDoor
open Go Go.SX

structure Sz where
  i : Nat
  long : Int
theorem f_lsize (v : Val) : ∀ (d : Nat) (g : GH), v.Ok g → WF d v.t → d ≤ 6 → Tri Tryz.prog 20 [v.val] g [] fun v' g' m' => (∃ long : Int, v' = .tuple #[.int .i64 (v.t.siz : Int), .int .i64 (v.t.dep : Int), .int .i64 long]) ∧ m' = [] := by
  induction v using Val.ind with
  | h kind int text items iA ic keys kA kc ih =>
    intro d g hv hw hd
    obtain ⟨hi, hk, hic, hkc, hb, hit⟩ := hv
    have hsl := siz_len _ d hw
    have hdl := dep_len _ d hw
    have hB : szB d ≤ 100000 := by
      have : ∀ e, e ≤ 6 → szB e ≤ 100000 := by decide
      exact this d hd
    rw [Val.t_mk] at hw hsl hdl ⊢
    have hit2 := hw.items
    have hkl : kind = 5 → keys.length = items.length := by
      rcases hw.inv with ⟨h, _⟩ | ⟨h, _⟩ | ⟨h, _⟩ | ⟨h, _⟩ | ⟨_, _, h, _⟩ | ⟨_, _, h, _, _, h2, _⟩
      · intro h'; rw [h] at h'; cases h'
      · intro h'; rw [h] at h'; cases h'
      · intro h'; rw [h] at h'; cases h'
      · intro h'; rw [h] at h'; cases h'
      · intro h'; rw [h] at h'; cases h'
      · intro _; simpa using h2
    rw [T.siz] at hsl ⊢
    rw [T.dep] at hdl ⊢
    refine Tri.vc [.val (Val.mk kind int text items iA ic keys kA kc).val] Tryz.func20 rfl Tryz.ntmps20 rfl rfl ?_
    conv => whnf
    intro b1
    conv => whnf
    refine COK.draw [0] (by kernel_rfl) (by kernel_rfl) ?_
    conv => whnf
    obtain ⟨its, hits⟩ : ∃ its, its = items.map Val.t := ⟨_, rfl⟩
    have hil : its.length = items.length := by rw [hits, List.length_map]
    rw [← hits] at hsl hdl ⊢
    refine COK.loop (α := Sz) (fun y => [(1, .own 0 0), (2, .val (.int .i64 ((1 + sizs (its.take y.i) : Nat) : Int))), (3, .val (.int .i64 ((deps (its.take y.i) : Nat) : Int))), (4, .val (.int .i64 y.long)), (14, .val (.slice iA items.length ic)), (15, .val (.int .i64 items.length)), (16, .val (.int .i64 y.i))]) (fun _ => [⟨b1, .cells (Val.mk kind int text items iA ic keys kA kc).cells 28 (0, 0)⟩]) (fun y _ => y.i ≤ items.length) (fun y => items.length - y.i) ⟨0, (text.length : Int)⟩ [0] (Sub.of (by decide) rfl ⟨rfl, int_eq (by rfl), int_eq (by rfl), int_eq (by show ((str text).size : Int) = _; rw [str_size]), rfl, rfl, rfl, trivial⟩) (Nat.zero_le _) ?_
    rintro ⟨i, long⟩ g1 hg1 hi1
    simp only at hi1
    dsimp only
    by_cases hlt : i < items.length
    · obtain ⟨x, hx⟩ : ∃ x, items[i]? = some x := ⟨_, List.getElem?_eq_getElem hlt⟩
      have hmem := List.mem_of_getElem? hx
      obtain ⟨d', hdd, hl4, hwi⟩ : ∃ d', d = d' + 1 ∧ items.length ≤ 4 ∧ ∀ x ∈ items, WF d' x.t := by
        rcases hit2 with h | h
        · rw [h] at hlt; simp at hlt
        · exact h
      have hT := ih x hmem d' g1 ((hit x hmem).mono hg1) (hwi x hmem) (by omega)
      have hxx : its[i]? = some x.t := by rw [hits, List.getElem?_map, hx]; rfl
      have hs1 := sizs_take hxx
      have hs2 := deps_take hxx
      have hle1 : sizs (its.take (i + 1)) ≤ sizs its := sizs_mono its (i + 1)
      have hle2 : deps (its.take (i + 1)) ≤ deps its := deps_mono its (i + 1)
      obtain ⟨a, rfl, hra⟩ := (hi.mono hg1).at_ Val.len hx
      obtain ⟨xk, xi, xt, xl, xA, xc, xs, xB, xd⟩ := x
      generalize (Val.mk xk xi xt xl xA xc xs xB xd).t = xT at hT hs1 hs2 hxx
      have e1 : IntKind.i64.wrap (((1 + sizs (its.take i) : Nat) : Int) + (xT.siz : Int)) = ((1 + sizs (its.take (i + 1)) : Nat) : Int) := by rw [i64_in (by omega) (by omega), hs1]; push_cast; omega
      have e2 : maxI ((deps (its.take i) : Nat) : Int) (xT.dep : Int) = ((deps (its.take (i + 1)) : Nat) : Int) := by rw [hs2]; unfold maxI; split <;> omega
      refine vcC_ok _ _ _ _ _ ?_
      conv => whnf
      refine ⟨fun _ => ?_, fun h1 => absurd (of_decide_eq_false h1) (by omega)⟩
      conv => whnf
      refine ⟨⟨by omega, by omega⟩, ?_⟩
      conv => whnf
      refine OOK.yn (YN.loads rfl rfl rfl hra ?_)
      conv => whnf
      intro b6
      conv => whnf
      refine OOK.call [] rfl rfl rfl (by kernel_rfl) rfl (hT) (by decide) rfl ?_
      rintro v_ g2 m_ hg2 ⟨⟨lg, rfl⟩, rfl⟩
      conv => whnf
      refine ⟨fun q => ?_, fun q => ?_⟩
      · have hk5 : kind = 5 := by simpa using q
        have hkk := hkl hk5
        obtain ⟨k, hkx⟩ : ∃ k, keys[i]? = some k := ⟨_, List.getElem?_eq_getElem (by omega)⟩
        obtain ⟨ka, rfl, hrk⟩ := (hk.mono (hg1.trans hg2)).at_ encK_len hkx
        conv => whnf
        refine ⟨⟨by omega, by omega⟩, ?_⟩
        conv => whnf
        refine OOK.yn (YN.load rfl rfl rfl (v := .string (str k)) (Reads.at0 hrk) ?_)
        conv => whnf
        exact ⟨⟨i + 1, _⟩, [0], Sub.of (by decide) rfl ⟨rfl, int_eq e1, int_eq e2, rfl, rfl, rfl, int_eq (i64_in (by omega) (by omega)), trivial⟩, hlt, by show items.length - (i + 1) < items.length - i; omega⟩
      · conv => whnf
        exact ⟨⟨i + 1, _⟩, [0], Sub.of (by decide) rfl ⟨rfl, int_eq e1, int_eq e2, rfl, rfl, rfl, int_eq (i64_in (by omega) (by omega)), trivial⟩, hlt, by show items.length - (i + 1) < items.length - i; omega⟩
    · have hid : i = items.length := by omega
      subst hid
      refine vcC_ok _ _ _ _ _ ?_
      conv => whnf
      refine ⟨fun h1 => absurd (of_decide_eq_true h1) (by omega), fun _ => ?_⟩
      conv => whnf
      have htk : its.take items.length = its := by rw [← hil, List.take_length]
      rw [htk]
      refine .mk ⟨_, [], _, rfl, by decide, rfl, trivial, ⟨long, ?_⟩, rfl⟩
      have e3 : IntKind.i64.wrap (((deps its : Nat) : Int) + 1) = ((deps its + 1 : Nat) : Int) := by rw [i64_in (by omega) (by omega)]; push_cast; rfl
      rw [e3]
      rfl
end Go.Proofs.YthkfnmmbjoadbaaGreatDoor
