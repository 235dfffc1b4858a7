/- WholeTexts: the encoding of a payload, by the seat's own function. -/
import Derived.Test.YthkfnmmbjoadbaaGreatDoorYm5
set_option linter.unusedVariables false
set_option linter.unusedSimpArgs false
set_option maxRecDepth 100000
namespace Go.Proofs.YthkfnmmbjoadbaaGreatDoor
open Go Go.SX

theorem f_Encode (v : Val) (g : GH) (hv : v.Ok g) (hw : WF 4 v.t) : Tri Tryz.prog 14 [.slice none 0 0, v.val] g [] fun v' g' m' => ∃ A' c', v' = .slice A' v.t.enc.length c' ∧ Row g' encB A' v.t.enc ∧ m' = [] := by
  have hl := enc_len _ _ hw
  have t1 := fun g' (hg' : g.le g') => f_formed v 4 g' true (hv.mono hg') hw
  have hN : encN 4 ≤ 20000 := by decide
  have t2 := fun g' A c (hA : Row g' encB A []) (hg' : g.le g') => f_enc v 4 g' A c [] hA (hv.mono hg') hw (by simp; omega)
  simp only [List.nil_append, List.length_nil] at t2
  generalize v.t.enc = E at *
  have t0 := (f_cloneB g none 0 [] (fun h => absurd rfl h) (by simp)).rowOut (F := fun A c => .slice A 0 c)
  obtain ⟨xk, xi, xt, xl, xA, xc, xs, xB, xd⟩ := v
  refine Tri.vc [.val (.slice none 0 0), .val (Val.mk xk xi xt xl xA xc xs xB xd).val] Tryz.func14 rfl Tryz.ntmps14 rfl rfl ?_
  conv => whnf
  intro b1
  conv => whnf
  refine OOK.call [] rfl rfl rfl (by kernel_rfl) rfl (t0) (by decide) rfl ?_
  rintro v_ g1 m_ hg1 ⟨A1, c1, d1, rfl, hR, hc1, rfl⟩
  conv => whnf
  refine OOK.call [] rfl rfl rfl (by kernel_rfl) rfl (t1 g1 hg1) (by decide) rfl ?_
  rintro v_ g2 m_ hg2 ⟨rfl, rfl⟩
  conv => whnf
  refine ⟨(by intro q; cases q), fun _ => ?_⟩
  conv => whnf
  refine OOK.call [] rfl rfl rfl (by kernel_rfl) rfl (t2 g2 A1 c1 (hR.mono hg2) (hg1.trans hg2)) (by decide) rfl ?_
  rintro v_ g3 m_ hg3 ⟨A3, c3, rfl, hR3, rfl⟩
  conv => whnf
  exact .mk ⟨_, [], _, rfl, by decide, rfl, trivial, A3, c3, rfl, hR3, rfl⟩
theorem f_lnum (g : GH) (s0 : Slot) (A0 : Option Addr) (c0 : Nat) (l : List UInt8) (n : Int) (hO : OwnAt 5 1 encB l s0 A0 c0) (hl : l.length ≤ 90000) (h1 : -9223372036854775808 ≤ n) (h2 : n ≤ 9223372036854775807) :
    Tri Tryz.prog 50 [.slice A0 l.length c0, .int .i64 n] g [s0] fun v g' m' => ∃ s A' c', OwnAt 5 1 encB (l ++ vint (zz n)) s A' c' ∧ v = .slice A' (l.length + (vint (zz n)).length) c' ∧ m' = [⟨s0.b, .dead⟩, s] := by
  refine Tri.cok [.val (.slice A0 l.length c0), .val (.int .i64 n)] Tryz.func50 rfl Tryz.ntmps50 rfl rfl ?_
  refine COK.move 0 rfl ?_
  refine COK.seq (vcC_ok _ _ _ _ _ ?_)
  conv => whnf
  refine COK.seq (vcC_ok _ _ _ _ _ ?_)
  conv => whnf
  refine COK.seq (COK.cut (α := Unit) (fun _ => [(0, .val (.slice A0 l.length c0)), (5, .val (.int .u64 (zz n : Int)))]) (fun _ => [⟨s0.b, .dead⟩, s0]) (fun _ _ => True) ?_ ?_)
  · refine vcC_ok _ _ _ _ _ ?_
    conv => whnf
    refine ⟨fun q => ?_, fun q => ?_⟩
    · have hn : n < 0 := of_decide_eq_true q
      conv => whnf
      have e1 : IntKind.i64.wrap (0 - IntKind.i64.wrap (n + 1)) = -(n + 1) := by rw [i64_in (x := n + 1) (by omega) (by omega), i64_in (by omega) (by omega)]; omega
      rw [e1, zz_or h1 hn]
      exact ⟨(), [0, 1], Sub.of (by decide) rfl ⟨rfl, rfl, trivial⟩, trivial⟩
    · have hn : 0 ≤ n := by have := of_decide_eq_false q; omega
      conv => whnf
      exact ⟨(), [0, 1], Sub.of (by decide) rfl ⟨rfl, int_eq (zz_shl hn h2), trivial⟩, trivial⟩
  rintro - g1 hg1 -
  have hz := zz_lt h1 h2
  have hvl := vint_len10 hz
  generalize zz n = z at *
  refine vcC_ok _ _ _ _ _ ?_
  conv => whnf
  refine COK.loop (α := Vi) (fun x => [(0, .val (.slice x.A (l ++ x.done).length x.c)), (5, .val (.int .u64 (x.u : Int)))]) (fun x => [⟨s0.b, .dead⟩, x.s]) (fun x _ => OwnAt 5 1 encB (l ++ x.done) x.s x.A x.c ∧ x.done ++ vint x.u = vint z ∧ x.u < 18446744073709551616) (fun x => x.u) ⟨z, [], s0, A0, c0⟩ [0, 1] (Sub.of (by decide) rfl ⟨slice_eq (A := A0) (a := l.length) (b := (l ++ ([] : List UInt8)).length) (c := c0) (by rw [List.append_nil]), rfl, trivial⟩) ⟨by rw [List.append_nil]; exact hO, rfl, hz⟩ ?_
  rintro ⟨u, done, s, A, c⟩ g2 hg2 ⟨hO, hd, hu⟩
  have hdl : done.length + (vint u).length = (vint z).length := by rw [← hd, List.length_append]
  have hup := vint_pos u
  have hll : (l ++ done).length ≤ 90010 := by rw [List.length_append]; omega
  dsimp only at hO hd hu ⊢
  refine vcC_ok _ _ _ _ _ ?_
  conv => whnf
  refine ⟨fun q => ?_, fun q => ?_⟩
  · have q1 : 128 ≤ u := Int.ofNat_le.1 (of_decide_eq_true q)
    have e := vint_byte u hu
    conv => whnf
    intro bl
    conv => whnf
    refine OOK.appendRowB (UInt8.ofNat (u % 128 + 128)) 1 encB_len rfl rfl rfl rfl (.inl ⟨_, rfl⟩) rfl (size := 1) (bytes := 1) rfl rfl rfl (by decide) rfl rfl hO (Src.own (i := 2) (q := 0) rfl rfl (fun j v hj => by rw [u8_last (by omega), ← e] at hj; rw [Nat.zero_add]; exact hj)) (encB_one _) (by omega) ?_
    intro s' A' c' hO'
    conv => whnf
    refine ⟨⟨u / 128, done ++ [UInt8.ofNat (u % 128 + 128)], s', A', c'⟩, [0, 3], Sub.of (by decide) rfl ⟨slice_eq (A := A') (a := (l ++ done).length + 1) (b := (l ++ (done ++ [UInt8.ofNat (u % 128 + 128)])).length) (c := c') (by rw [← List.append_assoc, List.length_append (bs := [_])]; rfl), int_eq (shr7 u), trivial⟩, ⟨by rw [← List.append_assoc]; exact hO', ?_, by show u / 128 < _; omega⟩, by show u / 128 < u; omega⟩
    show (done ++ [_]) ++ vint (u / 128) = _
    rw [← hd, vint.eq_def u, if_neg (by omega), List.append_assoc]
    rfl
  · have q1 : u < 128 := by have := of_decide_eq_false q; omega
    conv => whnf
    intro bl
    conv => whnf
    refine OOK.appendRowB (UInt8.ofNat u) 1 encB_len rfl rfl rfl rfl (.inl ⟨_, rfl⟩) rfl (size := 1) (bytes := 1) rfl rfl rfl (by decide) rfl rfl hO (Src.own (i := 2) (q := 0) rfl rfl (fun j v hj => by rw [u8_last (by omega), show (u : Int) = IntKind.u8.wrap (u : Int) by rw [u8w]; omega] at hj; rw [Nat.zero_add]; exact hj)) (encB_one _) (by omega) ?_
    intro s' A' c' hO'
    conv => whnf
    have hv : vint u = [UInt8.ofNat u] := by rw [vint, if_pos q1]
    refine .mk ⟨_, [0, 3], _, rfl, by decide, rfl, ⟨rfl, trivial⟩, s', A', c', by rw [← hd, hv, ← List.append_assoc]; exact hO', slice_eq (by rw [← hd, hv, List.length_append, List.length_append, Nat.add_assoc]; rfl), rfl⟩
theorem f_lchars (g : GH) (s0 : Slot) (A0 : Option Addr) (c0 : Nat) (l x : List UInt8) (hO : OwnAt 5 1 encB l s0 A0 c0) (hl : l.length ≤ 89000) (hx : x.length ≤ 5000) :
    Tri Tryz.prog 51 [.slice A0 l.length c0, .string (str x)] g [s0] fun v g' m' => ∃ s A' c', OwnAt 5 1 encB (l ++ vint (zz x.length) ++ x) s A' c' ∧ v = .slice A' (l ++ vint (zz x.length) ++ x).length c' ∧ m' = [⟨s0.b, .dead⟩, s] := by
  have hz := vint_len10 (zz_lt (n := (x.length : Int)) (by omega) (by omega))
  refine Tri.cok [.val (.slice A0 l.length c0), .val (.string (str x))] Tryz.func51 rfl Tryz.ntmps51 rfl rfl ?_
  refine COK.seq (vcC_ok _ _ _ _ _ ?_)
  conv => whnf
  refine COK.seq (vcC_ok _ _ _ _ _ ?_)
  conv => whnf
  rw [str_size]
  refine OOK.call [0] rfl rfl rfl (by kernel_rfl) rfl (f_lnum g s0 A0 c0 l x.length hO (by omega) (by omega) (by omega)) (by decide) rfl ?_
  rintro v_ g1 m_ hg1 ⟨s, A', c', hO, rfl, rfl⟩
  conv => whnf
  rw [← List.length_append]
  by_cases h0 : x = []
  · subst h0
    have hn := hO.le
    refine OOK.append0 rfl rfl rfl rfl (.inr rfl) rfl (src_str []) hn ?_
    conv => whnf
    refine COK.ret ?_
    exact .mk ⟨_, [0, 1], _, rfl, by decide, rfl, ⟨rfl, trivial⟩, s, A', c', by rw [List.append_nil]; exact hO, by rw [List.append_nil] <;> rfl, rfl⟩
  · refine OOK.appendRowN x 1 encB_len rfl rfl rfl rfl (.inr rfl) rfl (size := 1) (bytes := 1) rfl rfl rfl (by decide) rfl rfl hO (src_str x) (bytes_one x) (by rw [List.length_append]; omega) (List.length_pos_iff.2 h0) ?_
    intro s' A' c' hO'
    conv => whnf
    refine COK.ret ?_
    exact .mk ⟨_, [0, 2], _, rfl, by decide, rfl, ⟨rfl, trivial⟩, s', A', c', hO', slice_eq (by rw [List.length_append (bs := x)]), rfl⟩
end Go.Proofs.YthkfnmmbjoadbaaGreatDoor
/- WholeTexts: the encoding of a payload, by the seat's own function: the walk. -/
set_option linter.unusedVariables false
set_option linter.unusedSimpArgs false
set_option maxRecDepth 100000
namespace Go.Proofs.YthkfnmmbjoadbaaGreatDoor
open Go Go.SX

structure Fs where
  i : Nat
  s : Slot
  A : Option Addr
  c : Nat
theorem f_lenc (v : Val) : ∀ (d : Nat) (g : GH) (s0 : Slot) (A0 : Option Addr) (c0 : Nat) (l : List UInt8), OwnAt 5 1 encB l s0 A0 c0 → v.Ok g → WF d v.t → l.length + v.t.enc.length ≤ 80000 → Tri Tryz.prog 16 [.slice A0 l.length c0, v.val] g [s0] fun v' g' m' => ∃ s A' c', v' = .slice A' (l ++ v.t.enc).length c' ∧ OwnAt 5 1 encB (l ++ v.t.enc) s A' c' ∧ m' = [⟨s0.b, .dead⟩, s] := by
  induction v using Val.ind with
  | h kind int text items iA ic keys kA kc ih =>
    intro d g s0 A0 c0 l hO hv hw hle
    obtain ⟨hi, hk, hic, hkc, hb, hit⟩ := hv
    rw [Val.t_mk] at hw hle ⊢
    have hkl := hw.keysL
    have hit2 := hw.items
    have hinv := hw.inv
    rw [T.enc] at hle ⊢
    obtain ⟨its, hits⟩ : ∃ its, its = items.map Val.t := ⟨_, rfl⟩
    have hil : its.length = items.length := by rw [hits, List.length_map]
    rw [← hits] at hle hinv ⊢
    obtain ⟨E, hE⟩ : ∃ E, E = vint (zz kind) ++ (if kind = 1 ∨ kind = 2 then vint (zz int) else if kind = 3 then vint (zz text.length) ++ text else (if kind = 4 ∨ kind = 5 then vint (zz its.length) else []) ++ encs (decide (kind = 5)) its keys) := ⟨_, rfl⟩
    rw [← hE] at hle ⊢
    have hkr : -9223372036854775808 ≤ kind ∧ kind ≤ 9223372036854775807 := by rcases hinv with ⟨h, _⟩ | ⟨h, _⟩ | ⟨h, _⟩ | ⟨h, _⟩ | ⟨_, _, h, _⟩ | ⟨_, _, h, _⟩ <;> omega
    have hEl : (l ++ vint (zz kind)).length ≤ 80000 := by rw [hE, List.length_append] at hle; rw [List.length_append]; omega
    refine Tri.vc [.val (.slice A0 l.length c0), .val (Val.mk kind int text items iA ic keys kA kc).val] Tryz.func16 rfl Tryz.ntmps16 rfl rfl ?_
    conv => whnf
    intro b1
    conv => whnf
    refine OOK.call [0] rfl rfl rfl (by kernel_rfl) rfl (f_lnum g s0 A0 c0 l kind hO (by omega) hkr.1 hkr.2) (by decide) rfl ?_
    rintro v_ g2 m_ hg2 ⟨s, A1, c1, hO, rfl, rfl⟩
    conv => whnf
    have hg02 := hg2
    rw [← List.length_append]
    rcases hinv with ⟨rfl, rfl, rfl, rfl, rfl⟩ | ⟨rfl, hb, rfl, rfl, rfl⟩ | ⟨rfl, h1, h2, rfl, rfl, rfl⟩ | ⟨rfl, rfl, hl, rfl, rfl⟩ | ⟨d', rfl, rfl, rfl, rfl, rfl, hl, hi'⟩ | ⟨d', rfl, rfl, rfl, rfl, hkl, hl, hs, h6, hi'⟩
    · refine ⟨(by intro q; cases q), fun _ => ?_⟩
      conv => whnf
      refine ⟨(by intro q; cases q), fun _ => ?_⟩
      conv => whnf
      refine ⟨(by intro q; cases q), fun _ => ?_⟩
      conv => whnf
      refine ⟨(by intro q; cases q), fun _ => ?_⟩
      conv => whnf
      refine ⟨(by intro q; cases q), fun _ => ?_⟩
      conv => whnf
      have hE' : E = vint (zz 0) := by rw [hE, if_neg (by decide), if_neg (by decide), if_neg (by decide), encs]; simp
      exact .mk ⟨_, [0, 2], _, rfl, by decide, rfl, ⟨rfl, trivial⟩, s, A1, c1, slice_eq (by rw [hE']), by rw [hE']; exact hO, rfl⟩
    · refine ⟨fun _ => ?_, (by intro q; cases q)⟩
      conv => whnf
      refine ⟨fun _ => ?_, (by intro q; cases q)⟩
      conv => whnf
      refine OOK.call [2] rfl rfl rfl (by kernel_rfl) rfl (f_lnum g2 s A1 c1 (l ++ vint (zz 1)) int hO (by omega) (by omega) (by omega)) (by decide) rfl ?_
      rintro v_ g3 m_ hg3 ⟨s3, A3, c3, hO3, rfl, rfl⟩
      conv => whnf
      have hE' : E = vint (zz 1) ++ vint (zz int) := by rw [hE, if_pos (by decide)]
      exact .mk ⟨_, [0, 3], _, rfl, by decide, rfl, ⟨rfl, trivial⟩, s3, A3, c3, slice_eq (by rw [hE', ← List.append_assoc, List.length_append (bs := vint (zz int))]), by rw [hE', ← List.append_assoc]; exact hO3, rfl⟩
    · refine ⟨(by intro q; cases q), fun _ => ?_⟩
      conv => whnf
      refine ⟨fun _ => ?_, (by intro q; cases q)⟩
      conv => whnf
      refine OOK.call [2] rfl rfl rfl (by kernel_rfl) rfl (f_lnum g2 s A1 c1 (l ++ vint (zz 2)) int hO (by omega) (by omega) (by omega)) (by decide) rfl ?_
      rintro v_ g3 m_ hg3 ⟨s3, A3, c3, hO3, rfl, rfl⟩
      conv => whnf
      have hE' : E = vint (zz 2) ++ vint (zz int) := by rw [hE, if_pos (by decide)]
      exact .mk ⟨_, [0, 3], _, rfl, by decide, rfl, ⟨rfl, trivial⟩, s3, A3, c3, slice_eq (by rw [hE', ← List.append_assoc, List.length_append (bs := vint (zz int))]), by rw [hE', ← List.append_assoc]; exact hO3, rfl⟩
    · refine ⟨(by intro q; cases q), fun _ => ?_⟩
      conv => whnf
      refine ⟨(by intro q; cases q), fun _ => ?_⟩
      conv => whnf
      refine ⟨fun _ => ?_, (by intro q; cases q)⟩
      conv => whnf
      refine OOK.call [2] rfl rfl rfl (by kernel_rfl) rfl (f_lchars g2 s A1 c1 (l ++ vint (zz 3)) text hO (by omega) (by omega)) (by decide) rfl ?_
      rintro v_ g3 m_ hg3 ⟨s3, A3, c3, hO3, rfl, rfl⟩
      conv => whnf
      have hE' : E = vint (zz 3) ++ (vint (zz text.length) ++ text) := by rw [hE, if_neg (by decide), if_pos (by decide)]
      exact .mk ⟨_, [0, 3], _, rfl, by decide, rfl, ⟨rfl, trivial⟩, s3, A3, c3, slice_eq (by rw [hE', ← List.append_assoc, ← List.append_assoc]), by rw [hE', ← List.append_assoc, ← List.append_assoc]; exact hO3, rfl⟩
    · refine ⟨(by intro q; cases q), fun _ => ?_⟩
      conv => whnf
      refine ⟨(by intro q; cases q), fun _ => ?_⟩
      conv => whnf
      refine ⟨(by intro q; cases q), fun _ => ?_⟩
      conv => whnf
      refine ⟨fun _ => ?_, (by intro q; cases q)⟩
      conv => whnf
      refine ⟨fun _ => ?_, (by intro q; cases q)⟩
      conv => whnf
      refine OOK.call [2] rfl rfl rfl (by kernel_rfl) rfl (f_lnum g2 s A1 c1 (l ++ vint (zz 4)) items.length hO (by omega) (by omega) (by omega)) (by decide) rfl ?_
      rintro v_ g3 m_ hg3 ⟨s3, A3, c3, hO3, rfl, rfl⟩
      conv => whnf
      obtain ⟨p, hp⟩ : ∃ p, p = l ++ vint (zz 4) ++ vint (zz items.length) := ⟨_, rfl⟩
      have hlE : l ++ E = p ++ encs false its [] := by rw [hE, if_neg (by decide), if_neg (by decide), if_pos (by decide), hp, hil]; simp only [List.append_assoc]; rfl
      have hle2 : (p ++ encs false its []).length ≤ 80000 := by rw [← hlE, List.length_append]; exact hle
      rw [hlE]
      rw [← List.length_append]
      rw [← hp] at hO3 ⊢
      have hg03 := hg02.trans hg3
      refine COK.loop (α := Fs) (fun y => [(0, .val (.slice y.A (p ++ encs false (its.take y.i) []).length y.c)), (3, .own 1 0), (35, .val (.slice iA items.length ic)), (36, .val (.int .i64 items.length)), (37, .val (.int .i64 y.i))]) (fun y => [⟨s0.b, .dead⟩, ⟨b1, .cells (Val.mk 4 0 [] items iA ic [] kA kc).cells 28 (0, 0)⟩, y.s]) (fun y g' => y.i ≤ items.length ∧ OwnAt 5 1 encB (p ++ encs false (its.take y.i) []) y.s y.A y.c) (fun y => items.length - y.i) ⟨0, s3, A3, c3⟩ [0, 1, 3] (Sub.of (by decide) rfl ⟨slice_eq (by rw [List.take_zero, encs, List.append_nil]), rfl, rfl, rfl, rfl, trivial⟩) ⟨Nat.zero_le _, by rw [List.take_zero, encs, List.append_nil]; exact hO3⟩ ?_
      rintro ⟨i, s5, A5, c5⟩ g5 hg5 ⟨hi5, hR5⟩
      dsimp only at hi5 hR5 ⊢
      have hg05 := hg03.trans hg5
      by_cases hlt : i < items.length
      · obtain ⟨x, hx⟩ : ∃ x, items[i]? = some x := ⟨_, List.getElem?_eq_getElem hlt⟩
        have hmem := List.mem_of_getElem? hx
        have hwi : ∀ x ∈ items, WF d' x.t := fun x hx => hi' _ (by rw [hits]; exact List.mem_map_of_mem hx)
        have hxx : its[i]? = some x.t := by rw [hits, List.getElem?_map, hx]; rfl
        have htk := encs_take (m := false) (ks := []) hxx
        have hpre := encs_pre false its [] (i + 1)
        have hT := fun (q : List UInt8) (s : Slot) (A : Option Addr) (c : Nat) (g' : GH) (hg' : g.le g') (hA : OwnAt 5 1 encB q s A c) (hq : q.length + x.t.enc.length ≤ 80000) => ih x hmem d' g' s A c q hA ((hit x hmem).mono hg') (hwi x hmem) hq
        obtain ⟨a, rfl, hra⟩ := (hi.mono hg05).at_ Val.len hx
        obtain ⟨xk, xi, xt, xl, xA, xc, xs, xB, xd⟩ := x
        generalize (Val.mk xk xi xt xl xA xc xs xB xd).t = xT at hT hxx htk
        rw [List.length_append] at hle2
        rw [htk, List.length_append, List.length_append] at hpre
        obtain ⟨q, hq⟩ : ∃ q, q = p ++ encs false (its.take i) [] := ⟨_, rfl⟩
        have hql : q.length = p.length + (encs false (its.take i) []).length := by rw [hq, List.length_append]
        rw [← hq] at hR5 ⊢
        refine vcC_ok _ _ _ _ _ ?_
        conv => whnf
        refine ⟨fun _ => ?_, fun h1 => absurd (of_decide_eq_false h1) (by omega)⟩
        conv => whnf
        refine ⟨⟨by omega, by omega⟩, ?_⟩
        conv => whnf
        refine OOK.yn (YN.loads rfl rfl rfl hra ?_)
        conv => whnf
        intro b6
        conv => whnf
        refine ⟨(by intro q; cases q), fun _ => ?_⟩
        conv => whnf
        rw [if_neg (by decide), List.append_nil] at htk
        refine OOK.call [2] rfl rfl rfl (by kernel_rfl) rfl (hT q s5 A5 c5 g5 hg05 hR5 (by omega)) (by decide) rfl ?_
        rintro v_ g7 m_ hg7 ⟨s7, A7, c7, rfl, hR7, rfl⟩
        conv => whnf
        have e : p ++ encs false (its.take (i + 1)) [] = q ++ xT.enc := by rw [htk, hq]; simp only [List.append_assoc]
        exact ⟨⟨i + 1, s7, A7, c7⟩, [0, 1, 4], Sub.of (by decide) rfl ⟨slice_eq (by rw [e]), rfl, rfl, rfl, int_eq (i64_in (by omega) (by omega)), trivial⟩, ⟨hlt, by rw [e]; exact hR7⟩, by show items.length - (i + 1) < items.length - i; omega⟩
      · have hid : i = items.length := by omega
        subst hid
        refine vcC_ok _ _ _ _ _ ?_
        conv => whnf
        refine ⟨fun h1 => absurd (of_decide_eq_true h1) (by omega), fun _ => ?_⟩
        conv => whnf
        have htk : its.take items.length = its := by rw [← hil, List.take_length]
        rw [htk] at hR5 ⊢
        exact .mk ⟨_, [0, 2], _, rfl, by decide, rfl, ⟨rfl, trivial⟩, s5, A5, c5, rfl, hR5, rfl⟩
    · refine ⟨(by intro q; cases q), fun _ => ?_⟩
      conv => whnf
      refine ⟨(by intro q; cases q), fun _ => ?_⟩
      conv => whnf
      refine ⟨(by intro q; cases q), fun _ => ?_⟩
      conv => whnf
      refine ⟨(by intro q; cases q), fun _ => ?_⟩
      conv => whnf
      refine ⟨fun _ => ?_, (by intro q; cases q)⟩
      conv => whnf
      refine OOK.call [2] rfl rfl rfl (by kernel_rfl) rfl (f_lnum g2 s A1 c1 (l ++ vint (zz 5)) items.length hO (by omega) (by omega) (by omega)) (by decide) rfl ?_
      rintro v_ g3 m_ hg3 ⟨s3, A3, c3, hO3, rfl, rfl⟩
      conv => whnf
      obtain ⟨p, hp⟩ : ∃ p, p = l ++ vint (zz 5) ++ vint (zz items.length) := ⟨_, rfl⟩
      have hlE : l ++ E = p ++ encs true its keys := by rw [hE, if_neg (by decide), if_neg (by decide), if_pos (by decide), hp, hil]; simp only [List.append_assoc]; rfl
      have hle2 : (p ++ encs true its keys).length ≤ 80000 := by rw [← hlE, List.length_append]; exact hle
      rw [hlE]
      rw [← List.length_append]
      rw [← hp] at hO3 ⊢
      have hg03 := hg02.trans hg3
      refine COK.loop (α := Fs) (fun y => [(0, .val (.slice y.A (p ++ encs true (its.take y.i) keys).length y.c)), (3, .own 1 0), (35, .val (.slice iA items.length ic)), (36, .val (.int .i64 items.length)), (37, .val (.int .i64 y.i))]) (fun y => [⟨s0.b, .dead⟩, ⟨b1, .cells (Val.mk 5 0 [] items iA ic keys kA kc).cells 28 (0, 0)⟩, y.s]) (fun y g' => y.i ≤ items.length ∧ OwnAt 5 1 encB (p ++ encs true (its.take y.i) keys) y.s y.A y.c) (fun y => items.length - y.i) ⟨0, s3, A3, c3⟩ [0, 1, 3] (Sub.of (by decide) rfl ⟨slice_eq (by rw [List.take_zero, encs, List.append_nil]), rfl, rfl, rfl, rfl, trivial⟩) ⟨Nat.zero_le _, by rw [List.take_zero, encs, List.append_nil]; exact hO3⟩ ?_
      rintro ⟨i, s5, A5, c5⟩ g5 hg5 ⟨hi5, hR5⟩
      dsimp only at hi5 hR5 ⊢
      have hg05 := hg03.trans hg5
      by_cases hlt : i < items.length
      · obtain ⟨x, hx⟩ : ∃ x, items[i]? = some x := ⟨_, List.getElem?_eq_getElem hlt⟩
        have hmem := List.mem_of_getElem? hx
        have hwi : ∀ x ∈ items, WF d' x.t := fun x hx => hi' _ (by rw [hits]; exact List.mem_map_of_mem hx)
        have hxx : its[i]? = some x.t := by rw [hits, List.getElem?_map, hx]; rfl
        have htk := encs_take (m := true) (ks := keys) hxx
        have hpre := encs_pre true its keys (i + 1)
        have hT := fun (q : List UInt8) (s : Slot) (A : Option Addr) (c : Nat) (g' : GH) (hg' : g.le g') (hA : OwnAt 5 1 encB q s A c) (hq : q.length + x.t.enc.length ≤ 80000) => ih x hmem d' g' s A c q hA ((hit x hmem).mono hg') (hwi x hmem) hq
        obtain ⟨a, rfl, hra⟩ := (hi.mono hg05).at_ Val.len hx
        obtain ⟨xk, xi, xt, xl, xA, xc, xs, xB, xd⟩ := x
        generalize (Val.mk xk xi xt xl xA xc xs xB xd).t = xT at hT hxx htk
        rw [List.length_append] at hle2
        rw [htk, List.length_append, List.length_append] at hpre
        obtain ⟨q, hq⟩ : ∃ q, q = p ++ encs true (its.take i) keys := ⟨_, rfl⟩
        have hql : q.length = p.length + (encs true (its.take i) keys).length := by rw [hq, List.length_append]
        rw [← hq] at hR5 ⊢
        refine vcC_ok _ _ _ _ _ ?_
        conv => whnf
        refine ⟨fun _ => ?_, fun h1 => absurd (of_decide_eq_false h1) (by omega)⟩
        conv => whnf
        refine ⟨⟨by omega, by omega⟩, ?_⟩
        conv => whnf
        refine OOK.yn (YN.loads rfl rfl rfl hra ?_)
        conv => whnf
        intro b6
        conv => whnf
        refine ⟨fun _ => ?_, (by intro q; cases q)⟩
        conv => whnf
        obtain ⟨k, hkx⟩ : ∃ k, keys[i]? = some k := ⟨_, List.getElem?_eq_getElem (by omega)⟩
        have hk6 := h6 k (List.mem_of_getElem? hkx)
        obtain ⟨ka, rfl, hrk⟩ := (hk.mono hg05).at_ encK_len hkx
        rw [hkx, if_pos rfl, Option.getD_some] at htk hpre
        rw [List.length_append] at hpre
        refine ⟨⟨by omega, by omega⟩, ?_⟩
        conv => whnf
        refine OOK.yn (YN.load rfl rfl rfl (v := .string (str k)) (Reads.at0 hrk) ?_)
        conv => whnf
        refine OOK.call [2] rfl rfl rfl (by kernel_rfl) rfl (f_lchars g5 s5 A5 c5 q k hR5 (by omega) (by omega)) (by decide) rfl ?_
        rintro v_ g6 m_ hg6 ⟨s6, A6, c6, hR6, rfl, rfl⟩
        conv => whnf
        refine OOK.call [4] rfl rfl rfl (by kernel_rfl) rfl (hT (q ++ vint (zz k.length) ++ k) s6 A6 c6 g6 (hg05.trans hg6) hR6 (by rw [List.length_append, List.length_append]; omega)) (by decide) rfl ?_
        rintro v_ g7 m_ hg7 ⟨s7, A7, c7, rfl, hR7, rfl⟩
        conv => whnf
        have e : p ++ encs true (its.take (i + 1)) keys = q ++ vint (zz k.length) ++ k ++ xT.enc := by rw [htk, hq]; simp only [List.append_assoc]
        exact ⟨⟨i + 1, s7, A7, c7⟩, [0, 1, 5], Sub.of (by decide) rfl ⟨slice_eq (by rw [e]), rfl, rfl, rfl, int_eq (i64_in (by omega) (by omega)), trivial⟩, ⟨hlt, by rw [e]; exact hR7⟩, by show items.length - (i + 1) < items.length - i; omega⟩
      · have hid : i = items.length := by omega
        subst hid
        refine vcC_ok _ _ _ _ _ ?_
        conv => whnf
        refine ⟨fun h1 => absurd (of_decide_eq_true h1) (by omega), fun _ => ?_⟩
        conv => whnf
        have htk : its.take items.length = its := by rw [← hil, List.take_length]
        rw [htk] at hR5 ⊢
        exact .mk ⟨_, [0, 2], _, rfl, by decide, rfl, ⟨rfl, trivial⟩, s5, A5, c5, rfl, hR5, rfl⟩
end Go.Proofs.YthkfnmmbjoadbaaGreatDoor
/- WholeTexts: reading numbers from bytes. -/
set_option linter.unusedVariables false
set_option linter.unusedSimpArgs false
set_option maxRecDepth 100000
namespace Go.Proofs.YthkfnmmbjoadbaaGreatDoor
open Go Go.SX

def rdS (r : Nat) (A : Option Addr) (n c pos : Nat) : Slot := ⟨r, .cells [.slice A n c, .int .i64 pos, .int .i64 0, .bool true] 81 (0, 0)⟩
theorem f_beqB (g : GH) (A B : Option Addr) (c d : Nat) (a b : List UInt8) (hA : Row g encB A a) (hB : Row g encB B b) :
    Tri Tryz.prog 15 [.slice A a.length c, .slice B b.length d] g [] fun v g' m' => v = .bool (decide (a = b)) ∧ m' = [] := by
  refine Tri.vc [.val (.slice A a.length c), .val (.slice B b.length d)] Tryz.func15 rfl Tryz.ntmps15 rfl rfl ?_
  conv => whnf
  refine OOK.toStr rfl rfl rfl rfl rfl hA ?_
  conv => whnf
  refine OOK.toStr rfl rfl rfl rfl rfl hB ?_
  conv => whnf
  have e : ((⟨a.toArray⟩ : ByteArray).toList == (⟨b.toArray⟩ : ByteArray).toList) = decide (a = b) := by
    rw [bytes_eq]
    exact decide_eq_decide.2 ⟨fun h => str_inj h, fun h => by rw [h]⟩
  exact .mk ⟨_, [], _, rfl, by decide, rfl, trivial, congrArg Value.bool e, rfl⟩
theorem f_dead (g : GH) (r : Nat) (A : Option Addr) (n c pos : Nat) : Tri Tryz.prog 115 [.pointer (some ⟨r, 0, none⟩)] g [rdS r A n c pos] fun v g' m' => v = .bool false ∧ m' = [rdS r A n c pos] := by
  refine Tri.vc [.own 0 0] Tryz.func115 rfl Tryz.ntmps115 rfl rfl ?_
  conv => whnf
  refine ⟨(by intro q; cases q), fun _ => ?_⟩
  conv => whnf
  refine ⟨(by intro q; cases q), fun _ => ?_⟩
  conv => whnf
  exact .mk ⟨_, [0], _, rfl, by decide, rfl, ⟨rfl, trivial⟩, rfl, rfl⟩
theorem row_drop {g : GH} {A : Option Addr} {D : List UInt8} {c k : Nat} (h : Row g encB A D) (hc : D.length ≤ c) : Row g encB (if c = k then A else Option.map (fun x => addN x (k * 1)) A) (D.drop k) := by
  intro hne
  have hk : k < D.length := by
    apply Nat.lt_of_not_le
    intro h
    exact hne (List.drop_eq_nil_of_le h)
  have h0 : D ≠ [] := fun e => by rw [e] at hk; simp at hk
  obtain ⟨a, rfl, hr⟩ := h h0
  rw [if_neg (by omega)]
  refine ⟨_, rfl, fun j v hj => ?_⟩
  rw [← flat_drop encB_len D k] at hj
  rw [List.getElem?_drop] at hj
  have := hr _ v hj
  rw [← this]
  show cellG g (addN (addN a (k * 1)) j) = _
  congr 1
  rw [addN_add]
theorem vint_cons {u : Nat} (h : 128 ≤ u) : vint u = UInt8.ofNat (u % 128 + 128) :: vint (u / 128) := by rw [vint, if_neg (by omega)]
theorem vint_one {u : Nat} (h : u < 128) : vint u = [UInt8.ofNat u] := by rw [vint, if_pos h]
theorem and127 (x : UInt8) : IntKind.u8.wrap ↑(BitVec.ofInt IntKind.u8.bits (x.toNat : Int) &&& BitVec.ofInt IntKind.u8.bits 127).toNat = ((x.toNat % 128 : Nat) : Int) := by
  have h : ∀ n : Fin 256, IntKind.u8.wrap ↑(BitVec.ofInt IntKind.u8.bits (n.val : Int) &&& BitVec.ofInt IntKind.u8.bits 127).toNat = ((n.val % 128 : Nat) : Int) := by decide +kernel
  exact h ⟨x.toNat, x.toNat_lt⟩
theorem or_step {acc w i : Nat} (hi : i ≤ 9) (ha : acc < 128 ^ i) (hw : acc + w * 128 ^ i < 18446744073709551616) :
    IntKind.u64.wrap ↑(BitVec.ofInt IntKind.u64.bits (acc : Int) ||| BitVec.ofInt IntKind.u64.bits (IntKind.u64.wrap (IntKind.u64.wrap (w : Int) * 2 ^ min ((7 * i : Nat) : Int).toNat IntKind.u64.bits))).toNat = ((acc + w * 128 ^ i : Nat) : Int) := by
  have e1 : min ((7 * i : Nat) : Int).toNat IntKind.u64.bits = 7 * i := by
    rw [Int.toNat_natCast]
    exact Nat.min_eq_left (by show 7 * i ≤ 64; omega)
  have e2 : (128 : Nat) ^ i = 2 ^ (7 * i) := by rw [Nat.pow_mul]
  rw [e2] at ha hw ⊢
  have hpos : 0 < 2 ^ (7 * i) := Nat.pow_pos (by decide)
  have hw0 : w < 18446744073709551616 := by
    have : w * 1 ≤ w * 2 ^ (7 * i) := Nat.mul_le_mul_left _ hpos
    omega
  have e3 : IntKind.u64.wrap (w : Int) = (w : Int) := by rw [u64w]; omega
  have e4 : (w : Int) * 2 ^ (7 * i) = ((w * 2 ^ (7 * i) : Nat) : Int) := by push_cast; rfl
  have e5 : IntKind.u64.wrap ((w * 2 ^ (7 * i) : Nat) : Int) = ((w * 2 ^ (7 * i) : Nat) : Int) := by rw [u64w]; omega
  rw [e1, e3, e4, e5, u64w]
  show (((BitVec.ofInt 64 (acc : Int) ||| BitVec.ofInt 64 ((w * 2 ^ (7 * i) : Nat) : Int)).toNat : Nat) : Int) % _ = _
  rw [BitVec.toNat_or, BitVec.toNat_ofInt, BitVec.toNat_ofInt]
  have e6 : ((acc : Int) % (2 ^ 64 : Nat)).toNat = acc := by omega
  have e7 : (((w * 2 ^ (7 * i) : Nat) : Int) % (2 ^ 64 : Nat)).toNat = w * 2 ^ (7 * i) := by omega
  rw [e6, e7, Nat.or_comm, Nat.mul_comm w, ← Nat.two_pow_add_eq_or_of_lt ha, Nat.mul_comm _ w]
  omega
theorem unzz {n : Int} (h1 : -9223372036854775808 ≤ n) (h2 : n ≤ 9223372036854775807) :
    IntKind.i64.wrap ↑(BitVec.ofInt IntKind.i64.bits (IntKind.i64.wrap ((zz n : Int).fdiv (2 ^ min (Int.toNat 1) IntKind.u64.bits))) ^^^ BitVec.ofInt IntKind.i64.bits (IntKind.i64.wrap (0 - IntKind.i64.wrap (IntKind.u64.wrap ↑(BitVec.ofInt IntKind.u64.bits (zz n : Int) &&& BitVec.ofInt IntKind.u64.bits 1).toNat)))).toNat = n := by
  have e1 : (zz n : Int).fdiv (2 ^ min (Int.toNat 1) IntKind.u64.bits) = ((zz n / 2 : Nat) : Int) := by
    show (zz n : Int).fdiv 2 = _
    rw [Int.fdiv_eq_ediv_of_nonneg _ (by decide)]
    omega
  have hz := zz_lt h1 h2
  have e2 : IntKind.u64.wrap ↑(BitVec.ofInt IntKind.u64.bits (zz n : Int) &&& BitVec.ofInt IntKind.u64.bits 1).toNat = ((zz n % 2 : Nat) : Int) := by
    rw [u64w]
    show ((BitVec.ofInt 64 (zz n : Int) &&& BitVec.ofInt 64 1).toNat : Int) % _ = _
    rw [BitVec.toNat_and, BitVec.toNat_ofInt, BitVec.toNat_ofInt]
    have e6 : ((zz n : Int) % (2 ^ 64 : Nat)).toNat = zz n := by omega
    have e7 : ((1 : Int) % (2 ^ 64 : Nat)).toNat = 1 := by decide
    rw [e6, e7, Nat.and_one_is_mod]
    omega
  rw [e1, e2, i64_in (x := ((zz n / 2 : Nat) : Int)) (by omega) (by omega), i64_in (x := ((zz n % 2 : Nat) : Int)) (by omega) (by omega)]
  have key : ∀ t : Nat, IntKind.i64.wrap (t : Int) = if t % 18446744073709551616 < 9223372036854775808 then ((t % 18446744073709551616 : Nat) : Int) else ((t % 18446744073709551616 : Nat) : Int) - 18446744073709551616 := by
    intro t
    simp [IntKind.wrap, IntKind.bits, IntKind.signed]
    split <;> split <;> omega
  rcases Nat.mod_two_eq_zero_or_one (zz n) with h | h
  · have hn : 0 ≤ n ∧ zz n / 2 = n.toNat := by
      by_cases hh : n < 0
      · have : zz n = (2 * (-n - 1) + 1).toNat := by unfold zz; rw [if_pos hh]
        omega
      · have : zz n = (2 * n).toNat := by unfold zz; rw [if_neg hh]
        omega
    have hX : (BitVec.ofInt IntKind.i64.bits ((n.toNat : Nat) : Int) ^^^ BitVec.ofInt IntKind.i64.bits 0).toNat = n.toNat := by
      show (BitVec.ofInt 64 _ ^^^ BitVec.ofInt 64 0).toNat = _
      rw [show BitVec.ofInt 64 0 = 0#64 from by decide, BitVec.xor_zero, BitVec.toNat_ofInt]
      omega
    rw [h, show IntKind.i64.wrap (0 - ((0 : Nat) : Int)) = 0 from by decide, hn.2, hX, key]
    split <;> omega
  · have hn : n < 0 ∧ zz n / 2 = (-n - 1).toNat := by
      by_cases hh : n < 0
      · have : zz n = (2 * (-n - 1) + 1).toNat := by unfold zz; rw [if_pos hh]
        omega
      · have : zz n = (2 * n).toNat := by unfold zz; rw [if_neg hh]
        omega
    have hX : (BitVec.ofInt IntKind.i64.bits (((-n - 1).toNat : Nat) : Int) ^^^ BitVec.ofInt IntKind.i64.bits (-1)).toNat = 18446744073709551615 - (-n - 1).toNat := by
      show (BitVec.ofInt 64 _ ^^^ BitVec.ofInt 64 (-1)).toNat = _
      rw [show BitVec.ofInt 64 (-1) = BitVec.allOnes 64 from by decide, BitVec.xor_allOnes, BitVec.toNat_not, BitVec.toNat_ofInt]
      omega
    rw [h, show IntKind.i64.wrap (0 - ((1 : Nat) : Int)) = -1 from by decide, hn.2, hX, key]
    split <;> omega
theorem f_rint (g : GH) (r : Nat) (A : Option Addr) (D : List UInt8) (c pos : Nat) (n lo hi : Int) (hA : Row g encB A D) (hD : D.length ≤ 80000) (hc : D.length ≤ c) (hpos : pos ≤ D.length) (rest : List UInt8) (hd : D.drop pos = vint (zz n) ++ rest) (h1 : -9223372036854775808 ≤ n) (h2 : n ≤ 9223372036854775807) (hlo : lo ≤ n) (hhi : n ≤ hi) :
    Tri Tryz.prog 88 [.pointer (some ⟨r, 0, none⟩), .int .i64 lo, .int .i64 hi] g [rdS r A D.length c pos] fun v g' m' => v = .int .i64 n ∧ m' = [rdS r A D.length c (pos + (vint (zz n)).length)] := by
  refine Tri.vc [.own 0 0, .val (.int .i64 lo), .val (.int .i64 hi)] Tryz.func88 rfl Tryz.ntmps88 rfl rfl ?_
  conv => whnf
  refine OOK.call [0] rfl rfl rfl (by kernel_rfl) rfl (f_dead g r A D.length c pos) (by decide) rfl ?_
  rintro v_ g1 m_ hg1 ⟨rfl, rfl⟩
  conv => whnf
  refine ⟨(by intro q; cases q), fun _ => ?_⟩
  conv => whnf
  refine COK.draw [0] (by kernel_rfl) (by kernel_rfl) ?_
  conv => whnf
  refine ⟨⟨by omega, by omega⟩, ?_⟩
  conv => whnf
  have hu := zz_lt h1 h2
  obtain ⟨u, hue⟩ : ∃ u, u = zz n := ⟨_, rfl⟩
  rw [← hue] at hd hu ⊢
  have hE := row_drop (k := pos) hA hc
  obtain ⟨E, hEe⟩ : ∃ E, E = D.drop pos := ⟨_, rfl⟩
  have hEl : D.length - pos = E.length := by rw [hEe, List.length_drop]
  rw [← hEe] at hE hd
  have hpn : ((pos : Int)).toNat = pos := rfl
  rw [hpn, hEl]
  generalize (if c = pos then A else Option.map (fun x => addN x (pos * 1)) A) = B at hE ⊢
  generalize c - pos = c2
  refine COK.loop (α := Nat) (fun i => [(0, .own 0 0), (1, .val (.int .i64 lo)), (2, .val (.int .i64 hi)), (7, .val (.slice B E.length c2)), (8, .val (.int .u64 ((u % 128 ^ i : Nat) : Int))), (23, .val (.int .i64 i))]) (fun _ => [rdS r A D.length c pos]) (fun i _ => i ≤ 9 ∧ E.drop i = vint (u / 128 ^ i) ++ rest ∧ (i = 0 ∨ 1 ≤ u / 128 ^ i) ∧ i + (vint (u / 128 ^ i)).length = (vint u).length) (fun i => 10 - i) 0 [0] (Sub.of (by decide) rfl ⟨rfl, rfl, rfl, rfl, int_eq (by rw [Nat.pow_zero, Nat.mod_one]; rfl), rfl, trivial⟩) ⟨by decide, by rw [Nat.pow_zero, Nat.div_one]; exact hd, .inl rfl, by rw [Nat.pow_zero, Nat.div_one, Nat.zero_add]⟩ ?_
  rintro i g2 hg2 ⟨hi9, hdr, hi0, hil⟩
  obtain ⟨v, hv⟩ : ∃ v, v = u / 128 ^ i := ⟨_, rfl⟩
  rw [← hv] at hdr hi0 hil
  obtain ⟨x, hx, hxl⟩ : ∃ x : UInt8, E[i]? = some x ∧ (if v < 128 then x.toNat = v else x.toNat = v % 128 + 128) := by
    have : E[i]? = (vint v ++ rest)[0]? := by rw [← hdr, List.getElem?_drop]; rfl
    by_cases hv8 : v < 128
    · refine ⟨_, by rw [this, vint_one hv8]; rfl, ?_⟩
      rw [if_pos hv8, UInt8.toNat_ofNat_of_lt' (by show v < 256; omega)]
    · refine ⟨_, by rw [this, vint_cons (by omega)]; rfl, ?_⟩
      rw [if_neg hv8, UInt8.toNat_ofNat_of_lt' (by show _ < 256; omega)]
  have hlt : i < E.length := (List.getElem?_eq_some_iff.1 hx).1
  obtain ⟨a, rfl, hra⟩ := (hE.mono (hg1.trans hg2)).at_ encB_len hx
  refine vcC_ok _ _ _ _ _ ?_
  conv => whnf
  refine ⟨fun _ => ?_, fun h1 => absurd (of_decide_eq_false h1) (by omega)⟩
  conv => whnf
  refine ⟨fun h1 => absurd (of_decide_eq_true h1) (by omega), fun _ => ?_⟩
  conv => whnf
  refine ⟨⟨by omega, by omega⟩, ?_⟩
  conv => whnf
  refine OOK.yn (YN.load rfl rfl rfl (v := .int .u8 (x.toNat : Int)) (Reads.at0 hra) ?_)
  conv => whnf
  have h7 : IntKind.i64.wrap (7 * (i : Int)) = ((7 * i : Nat) : Int) := by rw [i64_in (by omega) (by omega)]; push_cast; rfl
  rw [and127, h7]
  have hxm : x.toNat % 128 = v % 128 := by split at hxl <;> omega
  have hpp : 0 < 128 ^ i := Nat.pow_pos (by decide)
  have hstep : u % 128 ^ i + (v % 128) * 128 ^ i = u % 128 ^ (i + 1) := by rw [Nat.mod_pow_succ, hv, Nat.mul_comm]
  have hlt2 : u % 128 ^ (i + 1) < 18446744073709551616 := Nat.lt_of_le_of_lt (Nat.mod_le _ _) hu
  have hw8 : IntKind.u8.wrap ((v % 128 : Nat) : Int) = ((v % 128 : Nat) : Int) := by rw [u8w]; omega
  have hor := or_step (acc := u % 128 ^ i) (w := v % 128) hi9 (Nat.mod_lt _ hpp) (by rw [hstep]; exact hlt2)
  rw [hstep] at hor
  rw [hxm]
  refine ⟨by omega, ?_⟩
  conv => whnf
  rw [hor]
  by_cases hv8 : v < 128
  · rw [if_pos hv8] at hxl
    refine ⟨fun h1 => absurd (of_decide_eq_true h1) (by omega), fun _ => ?_⟩
    conv => whnf
    have hvl : (vint v).length = 1 := by rw [vint_one hv8]; rfl
    have hum : u % 128 ^ (i + 1) = u := by
      have := Nat.div_add_mod u (128 ^ i)
      rw [← hstep, Nat.mod_eq_of_lt hv8, hv, Nat.mul_comm]
      omega
    rw [hum]
    have hunz := unzz h1 h2
    rw [← hue] at hunz
    have hpp2 : IntKind.i64.wrap ((pos : Int) + IntKind.i64.wrap ((i : Int) + 1)) = ((pos + (vint u).length : Nat) : Int) := by rw [i64_in (x := (i : Int) + 1) (by omega) (by omega), i64_in (by omega) (by omega)]; omega
    by_cases hi0' : i = 0
    · refine ⟨fun h1 => absurd (of_decide_eq_true h1) (by omega), fun _ => ?_⟩
      conv => whnf
      refine ⟨fun h1 => absurd (eq_of_beq h1) (by omega), fun _ => ?_⟩
      conv => whnf
      rw [hunz]
      refine ⟨fun h1 => absurd (of_decide_eq_true h1) (by omega), fun _ => ?_⟩
      conv => whnf
      refine ⟨fun h1 => absurd (of_decide_eq_true h1) (by omega), fun _ => ?_⟩
      conv => whnf
      rw [hpp2]
      exact .mk ⟨_, [0], _, rfl, by decide, rfl, ⟨rfl, trivial⟩, rfl, rfl⟩
    · refine ⟨fun _ => ?_, fun h1 => absurd (of_decide_eq_false h1) (by omega)⟩
      conv => whnf
      refine ⟨fun h1 => absurd (eq_of_beq h1) (by omega), fun _ => ?_⟩
      conv => whnf
      by_cases hi9' : i = 9
      · refine ⟨fun _ => ?_, fun h1 => absurd h1 (by simp [hi9'])⟩
        conv => whnf
        have hv1 : v ≤ 1 := by
          subst hi9'
          have e : (128 : Nat) ^ 9 = 9223372036854775808 := by decide
          rw [e] at hv
          omega
        refine ⟨fun h1 => absurd (of_decide_eq_true h1) (by omega), fun _ => ?_⟩
        conv => whnf
        rw [hunz]
        refine ⟨fun h1 => absurd (of_decide_eq_true h1) (by omega), fun _ => ?_⟩
        conv => whnf
        refine ⟨fun h1 => absurd (of_decide_eq_true h1) (by omega), fun _ => ?_⟩
        conv => whnf
        rw [hpp2]
        exact .mk ⟨_, [0], _, rfl, by decide, rfl, ⟨rfl, trivial⟩, rfl, rfl⟩
      · refine ⟨fun h1 => absurd (eq_of_beq h1) (by omega), fun _ => ?_⟩
        conv => whnf
        rw [hunz]
        refine ⟨fun h1 => absurd (of_decide_eq_true h1) (by omega), fun _ => ?_⟩
        conv => whnf
        refine ⟨fun h1 => absurd (of_decide_eq_true h1) (by omega), fun _ => ?_⟩
        conv => whnf
        rw [hpp2]
        exact .mk ⟨_, [0], _, rfl, by decide, rfl, ⟨rfl, trivial⟩, rfl, rfl⟩
  · rw [if_neg hv8] at hxl
    refine ⟨fun _ => ?_, fun h1 => absurd (of_decide_eq_false h1) (by omega)⟩
    conv => whnf
    have hv1 : v / 128 = u / 128 ^ (i + 1) := by rw [hv, Nat.div_div_eq_div_mul, ← Nat.pow_succ]
    have hdr1 : E.drop (i + 1) = vint (v / 128) ++ rest := by
      rw [← List.drop_drop, hdr, vint_cons (by omega)]
      rfl
    have hlen : (vint v).length = (vint (v / 128)).length + 1 := by rw [vint_cons (by omega), List.length_cons]
    have hi8 : i + 1 ≤ 9 := by
      rcases Nat.lt_or_ge i 9 with h | h
      · exact h
      · have : i = 9 := by omega
        subst this
        have e : (128 : Nat) ^ 9 = 9223372036854775808 := by decide
        rw [e] at hv
        omega
    exact ⟨i + 1, [0], Sub.of (by decide) rfl ⟨rfl, rfl, rfl, rfl, rfl, int_eq (i64_in (by omega) (by omega)), trivial⟩, ⟨hi8, by rw [← hv1]; exact hdr1, .inr (by rw [← hv1]; omega), by rw [← hv1]; omega⟩, by omega⟩
end Go.Proofs.YthkfnmmbjoadbaaGreatDoor
/- WholeTexts: reading a payload from bytes. -/
set_option linter.unusedVariables false
set_option linter.unusedSimpArgs false
set_option maxRecDepth 100000
namespace Go.Proofs.YthkfnmmbjoadbaaGreatDoor
open Go Go.SX

def dcS (q r : Nat) (cnt : Nat) : Slot := ⟨q, .cells [.pointer (some ⟨r, 0, none⟩), .int .i64 cnt] 84 (0, 0)⟩
theorem f_rerr (g : GH) (r : Nat) (A : Option Addr) (n c pos : Nat) : Tri Tryz.prog 52 [.pointer (some ⟨r, 0, none⟩)] g [rdS r A n c pos] fun v g' m' => v = .int .i64 0 ∧ m' = [rdS r A n c pos] := by
  refine Tri.vc [.own 0 0] Tryz.func52 rfl Tryz.ntmps52 rfl rfl ?_
  conv => whnf
  refine ⟨(by intro q; cases q), fun _ => ?_⟩
  conv => whnf
  refine ⟨(by intro q; cases q), fun _ => ?_⟩
  conv => whnf
  exact .mk ⟨_, [0], _, rfl, by decide, rfl, ⟨rfl, trivial⟩, rfl, rfl⟩
theorem f_rend (g : GH) (r : Nat) (A : Option Addr) (n c : Nat) : Tri Tryz.prog 19 [.pointer (some ⟨r, 0, none⟩)] g [rdS r A n c n] fun v g' m' => v = .int .i64 0 ∧ m' = [rdS r A n c n] := by
  refine Tri.vc [.own 0 0] Tryz.func19 rfl Tryz.ntmps19 rfl rfl ?_
  conv => whnf
  refine OOK.call [0] rfl rfl rfl (by kernel_rfl) rfl (f_rerr g r A n c n) (by decide) rfl ?_
  rintro v_ g1 m_ hg1 ⟨rfl, rfl⟩
  conv => whnf
  refine ⟨(by intro q; cases q), fun _ => ?_⟩
  conv => whnf
  refine COK.draw [0] (by kernel_rfl) (by kernel_rfl) ?_
  conv => whnf
  refine ⟨fun h1 => absurd (of_decide_eq_true h1) (by omega), fun _ => ?_⟩
  conv => whnf
  exact .mk ⟨_, [0], _, rfl, by decide, rfl, ⟨rfl, trivial⟩, rfl, rfl⟩
theorem f_ok (g : GH) (q r : Nat) (A : Option Addr) (n c pos cnt : Nat) : Tri Tryz.prog 87 [.pointer (some ⟨q, 0, none⟩), .bool true] g [dcS q r cnt, rdS r A n c pos] fun v g' m' => v = .bool true ∧ m' = [dcS q r cnt, rdS r A n c pos] := by
  refine Tri.vc [.own 0 0, .val (.bool true)] Tryz.func87 rfl Tryz.ntmps87 rfl rfl ?_
  conv => whnf
  refine OOK.call [1] rfl rfl rfl (by kernel_rfl) rfl (f_rerr g r A n c pos) (by decide) rfl ?_
  rintro v_ g1 m_ hg1 ⟨rfl, rfl⟩
  conv => whnf
  refine ⟨fun _ => ?_, (by intro q; cases q)⟩
  conv => whnf
  refine ⟨(by intro q; cases q), fun _ => ?_⟩
  conv => whnf
  refine OOK.call [1] rfl rfl rfl (by kernel_rfl) rfl (f_rerr g1 r A n c pos) (by decide) rfl ?_
  rintro v_ g2 m_ hg2 ⟨rfl, rfl⟩
  conv => whnf
  exact .mk ⟨_, [0, 1], _, rfl, by decide, rfl, ⟨rfl, rfl, trivial⟩, rfl, rfl⟩
theorem f_open (g : GH) (A : Option Addr) (D : List UInt8) (c : Nat) (hA : Row g encB A D) (hD : D.length ≤ 80000) : Tri Tryz.prog 17 [.slice A D.length c] g [] fun v g' m' => ∃ r B c', v = .pointer (some ⟨r, 0, none⟩) ∧ Row g' encB B D ∧ D.length ≤ c' ∧ m' = [rdS r B D.length c' 0] := by
  have t0 := (f_cloneB g A c D hA (by omega)).rowOut (F := fun A c => .slice A D.length c)
  refine Tri.vc [.val (.slice A D.length c)] Tryz.func17 rfl Tryz.ntmps17 rfl rfl ?_
  conv => whnf
  refine OOK.call [] rfl rfl rfl (by kernel_rfl) rfl (t0) (by decide) rfl ?_
  rintro v_ g1 m_ hg1 ⟨A1, c1, d1, rfl, hR, hc1, rfl⟩
  conv => whnf
  intro r
  conv => whnf
  exact .mk ⟨_, [1], _, rfl, by decide, rfl, trivial, r, A1, c1, rfl, hR, hc1, rfl⟩
theorem _root_.Go.SX.YN.toStr {P : Program} {n : Cfg} {o : Oper} {e : Env} {m : Mem} {g : GH} {K : SV → Prop} {s d el : TypeId} {x : Operand} {A : Option Addr} {c : Nat} {l : List UInt8} (hop : o.op = .convert s d x) (hx : e.va m x = some (.slice A l.length c))
    (hs : P.underlying s = some (.slice el)) (he : P.underlying el = some (.int .u8)) (hd : P.underlying d = some .string) (hr : Row g encB A l) (k : K (.val (.string ⟨l.toArray⟩))) : YN P n o e m g K := by
  refine .mk' (.val (.string ⟨l.toArray⟩)) (fun a ha => ⟨_, rfl, fun w hw => ?_⟩) k
  have hrun : (Go.convert s d (.slice A l.length c)).run P w = .ok (.string ⟨l.toArray⟩) w := by
    cases A with
    | none =>
      have : l = [] := by
        cases l with
        | nil => rfl
        | cons x r => obtain ⟨a, h, _⟩ := hr (by simp); cases h
      subst this
      exact run_convert_bytes_nil w s el hs he 0 c d hd
    | some a =>
      by_cases h0 : l = []
      · subst h0
        exact run_convert_bytes_back w s d el a c [] hs he hd (fun j hj => by simp at hj)
      · obtain ⟨a', ha', hrd⟩ := hr h0
        obtain rfl := Option.some.inj ha'
        refine run_convert_bytes_back w s d el a c l hs he hd (fun j hj => ?_)
        rw [← addN_eq]
        refine hw.cellG (hrd j _ ?_)
        have := flat_get encB_len l j 0 l[j] (.int .u8 (l[j].toNat : Int)) (List.getElem?_eq_getElem hj) rfl
        simpa using this
  simp only [execOp, hop, ha.va hx, Sem.run_bind, hrun, Result.andThen_ok, Sem.run_pure]
theorem row_pre {g : GH} {A : Option Addr} {a b : List UInt8} (h : Row g encB A (a ++ b)) : Row g encB A a := by
  intro hne
  obtain ⟨x, rfl, hr⟩ := h (by simp [hne])
  refine ⟨x, rfl, fun j v hj => hr j v ?_⟩
  rw [List.flatMap_append, List.getElem?_append_left (List.getElem?_eq_some_iff.1 hj).1]
  exact hj
theorem f_rtext (g : GH) (r : Nat) (A : Option Addr) (D : List UInt8) (c pos : Nat) (s : List UInt8) (hA : Row g encB A D) (hD : D.length ≤ 80000) (hc : D.length ≤ c) (hpos : pos ≤ D.length) (rest : List UInt8) (hd : D.drop pos = vint (zz s.length) ++ s ++ rest) :
    Tri Tryz.prog 89 [.pointer (some ⟨r, 0, none⟩), .int .i64 9223372036854775807] g [rdS r A D.length c pos] fun v g' m' => v = .string (str s) ∧ m' = [rdS r A D.length c (pos + (vint (zz s.length)).length + s.length)] := by
  have hdl : (D.drop pos).length = (vint (zz s.length)).length + s.length + rest.length := by rw [hd, List.length_append, List.length_append]
  rw [List.length_drop] at hdl
  refine Tri.vc [.own 0 0, .val (.int .i64 9223372036854775807)] Tryz.func89 rfl Tryz.ntmps89 rfl rfl ?_
  conv => whnf
  refine OOK.call [0] rfl rfl rfl (by kernel_rfl) rfl (f_rint g r A D c pos s.length 0 9223372036854775807 hA hD hc hpos (s ++ rest) (by rw [hd, List.append_assoc]) (by omega) (by omega) (by omega) (by omega)) (by decide) rfl ?_
  rintro v_ g1 m_ hg1 ⟨rfl, rfl⟩
  conv => whnf
  obtain ⟨p, hp⟩ : ∃ p, p = pos + (vint (zz s.length)).length := ⟨_, rfl⟩
  rw [← hp]
  refine OOK.call [0] rfl rfl rfl (by kernel_rfl) rfl (f_dead g1 r A D.length c p) (by decide) rfl ?_
  rintro v_ g2 m_ hg2 ⟨rfl, rfl⟩
  conv => whnf
  refine ⟨(by intro q; cases q), fun _ => ?_⟩
  conv => whnf
  refine COK.draw [0] (by kernel_rfl) (by kernel_rfl) ?_
  conv => whnf
  have e1 : IntKind.i64.wrap ((D.length : Int) - (p : Int)) = ((D.length - p : Nat) : Int) := by rw [i64_in (by omega) (by omega)]; omega
  rw [e1]
  refine ⟨fun h1 => absurd (of_decide_eq_true h1) (by omega), fun _ => ?_⟩
  conv => whnf
  refine COK.draw [0] (by kernel_rfl) (by kernel_rfl) ?_
  conv => whnf
  have e2 : IntKind.i64.wrap ((p : Int) + (s.length : Int)) = ((p + s.length : Nat) : Int) := by rw [i64_in (by omega) (by omega)]; omega
  rw [e2]
  refine ⟨⟨by omega, by omega, by omega⟩, ?_⟩
  conv => whnf
  have hE := row_drop (k := p) (hA.mono (hg1.trans hg2)) hc
  have hdp : D.drop p = s ++ rest := by rw [hp, ← List.drop_drop, hd, List.append_assoc, List.drop_left]
  rw [hdp] at hE
  have e3 : ((p + s.length : Nat) : Int).toNat - (p : Int).toNat = s.length := by omega
  rw [e3]
  refine YN.toStr rfl rfl rfl rfl rfl (row_pre hE) ?_
  conv => whnf
  rw [e2]
  exact .mk ⟨_, [0], _, rfl, by decide, rfl, ⟨rfl, trivial⟩, rfl, rfl⟩
end Go.Proofs.YthkfnmmbjoadbaaGreatDoor
/- WholeTexts: reading the items of a payload from bytes. -/
set_option linter.unusedVariables false
set_option linter.unusedSimpArgs false
set_option maxRecDepth 100000
namespace Go.Proofs.YthkfnmmbjoadbaaGreatDoor
open Go Go.SX

theorem encs_split (m : Bool) : ∀ (l : List T) (ks : List (List UInt8)) (i : Nat), encs m l ks = encs m (l.take i) ks ++ encs m (l.drop i) (ks.drop i)
  | [], ks, i => by rw [List.take_nil, List.drop_nil, encs, encs]; rfl
  | x :: l, ks, 0 => by rw [List.take_zero, List.drop_zero, List.drop_zero]; conv => rhs; rw [encs]
                        rfl
  | x :: l, ks, i + 1 => by
    rw [List.take_succ_cons, List.drop_succ_cons, encs, encs, encs_split m l ks.tail i, List.append_assoc (cs := encs _ _ _), ← List.drop_one, List.drop_drop, Nat.add_comm 1 i]
theorem encs_at {m : Bool} {l : List T} {ks : List (List UInt8)} {i : Nat} {x : T} (hx : l[i]? = some x) : encs m (l.drop i) (ks.drop i) = (if m then vint (zz (ks[i]?.getD []).length) ++ ks[i]?.getD [] else []) ++ x.enc ++ encs m (l.drop (i + 1)) (ks.drop (i + 1)) := by
  have e1 : l.drop i = x :: l.drop (i + 1) := by
    obtain ⟨h, rfl⟩ := List.getElem?_eq_some_iff.1 hx
    exact List.drop_eq_getElem_cons h
  rw [e1, encs]
  simp only [List.headD_eq_head?_getD, List.head?_drop, List.tail_drop]
structure It where
  i : Nat
  ys : List Val
  sK : Slot
  kA : Option Addr
  kc : Nat
  sV : Slot
  vA : Option Addr
  vc : Nat
theorem f_items (g : GH) (q r cnt : Nat) (A : Option Addr) (D : List UInt8) (c pos : Nat) (k : Int) (dep : Int) (its : List T) (ks : List (List UInt8)) (rest : List UInt8) (hA : Row g encB A D) (hD : D.length ≤ 80000) (hc : D.length ≤ c) (hpos : pos ≤ D.length) (hk : k = 4 ∨ k = 5)
    (hn : its.length ≤ 4) (hk4 : k = 4 → ks = []) (hk5 : k = 5 → ks.length = its.length ∧ Asc ks ∧ ∀ k ∈ ks, k.length ≤ 6) (hd : D.drop pos = vint (zz its.length) ++ encs (decide (k = 5)) its ks ++ rest) (hcnt : cnt + sizs its ≤ 1000) (hdep : 0 ≤ dep ∧ dep ≤ 16)
    (h : ∀ x ∈ its, ∀ (g1 : GH) (cnt1 pos1 : Nat) (rest1 : List UInt8), g.le g1 → pos1 ≤ D.length → D.drop pos1 = x.enc ++ rest1 → cnt1 + x.siz ≤ 1000 → Tri Tryz.prog 53 [.pointer (some ⟨q, 0, none⟩), .int .i64 (dep + 1)] g1 [dcS q r cnt1, rdS r A D.length c pos1] fun v g' m' => ∃ y : Val, v = y.val ∧ y.Ok g' ∧ y.t = x ∧ m' = [dcS q r (cnt1 + x.siz), rdS r A D.length c (pos1 + x.enc.length)]) :
    Tri Tryz.prog 90 [.pointer (some ⟨q, 0, none⟩), (Val.mk k 0 [] [] none 0 [] none 0).val, .int .i64 dep] g [dcS q r cnt, rdS r A D.length c pos] fun v g' m' => ∃ y : Val, v = y.val ∧ y.Ok g' ∧ y.t = .mk k 0 [] its ks ∧ m' = [dcS q r (cnt + sizs its), rdS r A D.length c (pos + (vint (zz its.length)).length + (encs (decide (k = 5)) its ks).length)] := by
  refine Tri.cok [.own 0 0, .val (Val.mk k 0 [] [] none 0 [] none 0).val, .val (.int .i64 dep)] Tryz.func90 rfl Tryz.ntmps90 rfl rfl ?_
  refine COK.dummy 0 (COK.dummy 0 ?_)
  refine vcC_ok _ _ _ _ _ ?_
  conv => whnf
  intro b4
  conv => whnf
  intro b6
  conv => whnf
  refine OOK.call [1] rfl rfl rfl (by kernel_rfl) rfl (f_rint g r A D c pos its.length (-9223372036854775808) 9223372036854775807 hA hD hc hpos (encs (decide (k = 5)) its ks ++ rest) (by rw [hd, List.append_assoc]) (by omega) (by omega) (by omega) (by omega)) (by decide) rfl ?_
  rintro v_ g1 m_ hg1 ⟨rfl, rfl⟩
  conv => whnf
  obtain ⟨n0, hn0⟩ : ∃ n0, n0 = its.length := ⟨_, rfl⟩
  have hle : decide ((its.length : Int) ≤ 1000) = true := decide_eq_true (by omega)
  refine ⟨fun _ => ?_, fun h1 => absurd (of_decide_eq_false h1) (by omega)⟩
  conv => whnf
  rw [hle]
  obtain ⟨p0, hp0⟩ : ∃ p0, p0 = pos + (vint (zz its.length)).length := ⟨_, rfl⟩
  have hp0l : p0 + (encs (decide (k = 5)) its ks).length + rest.length = D.length := by
    have : (D.drop pos).length = (vint (zz its.length)).length + (encs (decide (k = 5)) its ks).length + rest.length := by rw [hd, List.length_append, List.length_append]
    rw [List.length_drop] at this
    omega
  have hdp0 : D.drop p0 = encs (decide (k = 5)) its ks ++ rest := by rw [hp0, ← List.drop_drop, hd, List.append_assoc, List.drop_left]
  rw [← hp0]
  refine OOK.call [0, 1] rfl rfl rfl (by kernel_rfl) rfl (f_ok g1 q r A D.length c p0 cnt) (by decide) rfl ?_
  rintro v_ g2 m_ hg2 ⟨rfl, rfl⟩
  conv => whnf
  refine ⟨(by intro q; cases q), fun _ => ?_⟩
  conv => whnf
  refine COK.loop (α := It) (fun y => [(0, .own 0 0), (2, .val (.int .i64 dep)), (4, .own 2 0), (6, .own 3 0), (7, .val (.int .i64 its.length)), (8, .val (.int .i64 y.i))]) (fun y => [dcS q r (cnt + sizs (its.take y.i)), rdS r A D.length c (p0 + (encs (decide (k = 5)) (its.take y.i) ks).length), ⟨b4, .cells [.int .i64 k, .int .i64 0, .string ⟨#[]⟩, .slice y.vA y.ys.length y.vc, .slice y.kA (ks.take y.i).length y.kc] 28 (0, 0)⟩, ⟨b6, .cells [.int .i64 0, .int .i64 0, .string ⟨#[]⟩, .slice none 0 0, .slice none 0 0] 28 (0, 0)⟩, y.sK, y.sV])
    (fun y g' => y.i ≤ its.length ∧ OwnAt 9 1 encK (ks.take y.i) y.sK y.kA y.kc ∧ OwnAt 28 5 Val.cells y.ys y.sV y.vA y.vc ∧ y.ys.length = y.i ∧ (∀ x ∈ y.ys, x.Ok g') ∧ y.ys.map Val.t = its.take y.i) (fun y => its.length - y.i) ⟨0, [], ⟨0, .dead⟩, none, 0, ⟨0, .dead⟩, none, 0⟩ [0, 1, 4, 5, 2, 3] (Sub.of (by decide) (by show some _ = some _; congr 1) ⟨rfl, rfl, rfl, rfl, rfl, rfl, trivial⟩) ⟨Nat.zero_le _, .nil 0 rfl, .nil 0 rfl, rfl, (fun x hx => by cases hx), rfl⟩ ?_
  rintro ⟨i, ys, sK, kA, kc, sV, vA, vc⟩ g3 hg3 ⟨hi, hOK, hOV, hyl, hyo, hyt⟩
  dsimp only at hi hOK hOV hyl hyo hyt ⊢
  have hg03 := hg1.trans (hg2.trans hg3)
  obtain ⟨p1, hp1⟩ : ∃ p, p = p0 + (encs (decide (k = 5)) (its.take i) ks).length := ⟨_, rfl⟩
  have hspl := encs_split (decide (k = 5)) its ks i
  have hdp1 : D.drop p1 = encs (decide (k = 5)) (its.drop i) (ks.drop i) ++ rest := by rw [hp1, ← List.drop_drop, hdp0, hspl, List.append_assoc, List.drop_left]
  have hp1l : p1 + (encs (decide (k = 5)) (its.drop i) (ks.drop i)).length + rest.length = D.length := by
    have := congrArg List.length hspl
    rw [List.length_append] at this
    omega
  have hszi := sizs_mono its i
  have hdep1 : IntKind.i64.wrap (dep + 1) = dep + 1 := i64_in (by omega) (by omega)
  rw [← hp1]
  by_cases hlt : i < its.length
  · obtain ⟨x, hx⟩ : ∃ x, its[i]? = some x := ⟨_, List.getElem?_eq_getElem hlt⟩
    have hmem := List.mem_of_getElem? hx
    have hat := encs_at (m := decide (k = 5)) (ks := ks) hx
    have htk := encs_take (m := decide (k = 5)) (ks := ks) hx
    have hsz := sizs_take hx
    have hszi1 := sizs_mono its (i + 1)
    rw [hat] at hdp1 hp1l
    refine vcC_ok _ _ _ _ _ ?_
    conv => whnf
    refine ⟨fun _ => ?_, fun h1 => absurd (of_decide_eq_false h1) (by omega)⟩
    conv => whnf
    refine ⟨fun q5 => ?_, fun q5 => ?_⟩
    · have hk' : k = 5 := by simpa using q5
      obtain ⟨hkl, hks, hk6⟩ := hk5 hk'
      obtain ⟨y, hy⟩ : ∃ y, ks[i]? = some y := ⟨_, List.getElem?_eq_getElem (by omega)⟩
      have hy6 := hk6 y (List.mem_of_getElem? hy)
      rw [hy, if_pos (decide_eq_true hk'), Option.getD_some] at hdp1 hp1l htk
      rw [List.length_append, List.length_append, List.length_append] at hp1l
      conv => whnf
      refine OOK.call [1] rfl rfl rfl (by kernel_rfl) rfl (f_rtext g3 r A D c p1 y (hA.mono hg03) hD hc (by omega) (x.enc ++ encs (decide (k = 5)) (its.drop (i + 1)) (ks.drop (i + 1)) ++ rest) (by rw [hdp1]; simp only [List.append_assoc])) (by decide) rfl ?_
      rintro v_ g4 m_ hg4 ⟨rfl, rfl⟩
      conv => whnf
      refine ⟨fun _ => ?_, fun h1 => absurd (of_decide_eq_false h1) (by rw [str_size]; omega)⟩
      conv => whnf
      by_cases hi0 : i = 0
      · refine ⟨fun _ => ?_, fun h1 => absurd h1 (by simp [hi0])⟩
        conv => whnf
        refine OOK.call [0, 1] rfl rfl rfl (by kernel_rfl) rfl (f_ok g4 q r A D.length c (p1 + (vint (zz y.length)).length + y.length) (cnt + sizs (its.take i))) (by decide) rfl ?_
        rintro v_ g5 m_ hg5 ⟨rfl, rfl⟩
        conv => whnf
        refine ⟨(by intro q; cases q), fun _ => ?_⟩
        conv => whnf
        intro bk
        conv => whnf
        refine OOK.appendRowB y 4 encK_len rfl rfl rfl rfl (.inl ⟨_, rfl⟩) rfl (size := 1) (bytes := 16) rfl rfl rfl (by decide) rfl rfl hOK (Src.own (i := 6) (q := 0) rfl rfl (fun j v hj => by rw [Nat.zero_add]; exact hj)) (encK_one _) (by rw [List.length_take]; omega) ?_
        intro sK' kA' kc' hOK'
        conv => whnf
        rw [hdep1]
        refine OOK.call [0, 1] rfl rfl rfl (by kernel_rfl) rfl (h x hmem g5 (cnt + sizs (its.take i)) (p1 + (vint (zz y.length)).length + y.length) (encs (decide (k = 5)) (its.drop (i + 1)) (ks.drop (i + 1)) ++ rest) (hg03.trans (hg4.trans hg5)) (by omega) (by rw [Nat.add_assoc, ← List.drop_drop, hdp1, ← List.length_append, List.append_assoc, List.append_assoc, List.drop_left]) (by omega)) (by decide) rfl ?_
        rintro v_ g8 m_ hg8 ⟨⟨yk, yi, yt, yl, yA, yc, yks, yB, yd⟩, rfl, hyo1, hyt1, rfl⟩
        conv => whnf
        intro b10
        conv => whnf
        refine OOK.call [1] rfl rfl rfl (by kernel_rfl) rfl (f_rerr g8 r A D.length c _) (by decide) rfl ?_
        rintro v_ g9 m_ hg9 ⟨rfl, rfl⟩
        conv => whnf
        refine ⟨(by intro q; cases q), fun _ => ?_⟩
        conv => whnf
        intro bv
        conv => whnf
        refine OOK.appendRowB (Val.mk yk yi yt yl yA yc yks yB yd) 5 Val.len rfl rfl rfl rfl (.inl ⟨_, rfl⟩) rfl (size := 5) (bytes := 80) rfl rfl rfl (by decide) rfl rfl hOV (Src.own (i := 9) (q := 0) rfl rfl (fun j v hj => by rw [Nat.zero_add]; exact hj)) (Val.one _) (by omega) ?_
        intro sV' vA' vc' hOV'
        conv => whnf
        have ez : cnt + sizs (its.take i) + x.siz = cnt + sizs (its.take (i + 1)) := by omega
        have ep : p1 + (vint (zz y.length)).length + y.length + x.enc.length = p0 + (encs (decide (k = 5)) (its.take (i + 1)) ks).length := by rw [htk, hp1]; simp only [List.length_append]; omega
        have ey : ys.length + 1 = (ys ++ [Val.mk yk yi yt yl yA yc yks yB yd]).length := by rw [List.length_append]; rfl
        rw [ez, ep, ey]
        have ek : (ks.take i).length + 1 = (ks.take (i + 1)).length := by rw [take_get hy, List.length_append]; rfl
        rw [ek]
        rw [← take_get hy] at hOK'
        exact ⟨⟨i + 1, ys ++ [Val.mk yk yi yt yl yA yc yks yB yd], sK', kA', kc', sV', vA', vc'⟩, [0, 1, 2, 3, 7, 10], Sub.of (by decide) rfl ⟨rfl, rfl, rfl, rfl, rfl, int_eq (i64_in (by omega) (by omega)), trivial⟩, ⟨hlt, hOK', hOV', by rw [List.length_append, hyl]; rfl, (fun z hz => by
          rcases List.mem_append.1 hz with hz | hz
          · exact (hyo z hz).mono (hg4.trans (hg5.trans (hg8.trans hg9)))
          · obtain rfl := List.mem_singleton.1 hz
            exact hyo1.mono hg9), by rw [List.map_append, hyt, take_get hx, List.map_cons, hyt1]; rfl⟩, by show its.length - (i + 1) < its.length - i; omega⟩
      · refine ⟨fun h1 => absurd (eq_of_beq h1) (by omega), fun _ => ?_⟩
        obtain ⟨z, hz⟩ : ∃ z, ks[i - 1]? = some z := ⟨_, List.getElem?_eq_getElem (by omega)⟩
        have hzt : (ks.take i)[i - 1]? = some z := by rw [List.getElem?_take_of_lt (by omega), hz]
        have hzy : z < y := by
          have h1 := List.pairwise_iff_getElem.1 hks (i - 1) i (by omega) (by omega) (by omega)
          rw [(List.getElem?_eq_some_iff.1 hz).2, (List.getElem?_eq_some_iff.1 hy).2] at h1
          exact h1
        have htl : (ks.take i).length = i := by rw [List.length_take]; omega
        obtain ⟨ka, rfl, hrk⟩ := (hOK.in_ (g := g4) (m := [⟨b4, .dead⟩, ⟨b4, .dead⟩, ⟨b4, .dead⟩, ⟨b4, .dead⟩, sK]) 4 rfl).at_ encK_len hzt
        have e1 : IntKind.i64.wrap ((i : Int) - 1) = ((i - 1 : Nat) : Int) := by rw [i64_in (by omega) (by omega)]; omega
        conv => whnf
        rw [e1]
        refine ⟨⟨by omega, by omega⟩, ?_⟩
        conv => whnf
        refine OOK.yn (YN.loadIn rfl rfl rfl (v := .string (str z)) ?_ ?_)
        · show ReadsIn _ [_, _, _, _, sK, sV] _ _
          obtain ⟨a', h1, h2⟩ := (hOK.in_ (g := g4) (m := [_, _, _, _, sK, sV]) 4 rfl).at_ encK_len hzt
          obtain rfl := Option.some.inj h1
          exact h2
        conv => whnf
        have hb : (!(Op.bytesLess (str y).toList (str z).toList || (str y).toList == (str z).toList)) = true := by
          rw [str_less, str_beq, decide_eq_false (fun h => List.lt_asymm h hzy), decide_eq_false (fun h => by rw [h] at hzy; exact List.lt_irrefl _ hzy)]
          rfl
        rw [hb]
        refine OOK.call [0, 1] rfl rfl rfl (by kernel_rfl) rfl (f_ok g4 q r A D.length c (p1 + (vint (zz y.length)).length + y.length) (cnt + sizs (its.take i))) (by decide) rfl ?_
        rintro v_ g5 m_ hg5 ⟨rfl, rfl⟩
        conv => whnf
        refine ⟨(by intro q; cases q), fun _ => ?_⟩
        conv => whnf
        intro bk
        conv => whnf
        refine OOK.appendRowB y 4 encK_len rfl rfl rfl rfl (.inl ⟨_, rfl⟩) rfl (size := 1) (bytes := 16) rfl rfl rfl (by decide) rfl rfl hOK (Src.own (i := 6) (q := 0) rfl rfl (fun j v hj => by rw [Nat.zero_add]; exact hj)) (encK_one _) (by rw [List.length_take]; omega) ?_
        intro sK' kA' kc' hOK'
        conv => whnf
        rw [hdep1]
        refine OOK.call [0, 1] rfl rfl rfl (by kernel_rfl) rfl (h x hmem g5 (cnt + sizs (its.take i)) (p1 + (vint (zz y.length)).length + y.length) (encs (decide (k = 5)) (its.drop (i + 1)) (ks.drop (i + 1)) ++ rest) (hg03.trans (hg4.trans hg5)) (by omega) (by rw [Nat.add_assoc, ← List.drop_drop, hdp1, ← List.length_append, List.append_assoc, List.append_assoc, List.drop_left]) (by omega)) (by decide) rfl ?_
        rintro v_ g8 m_ hg8 ⟨⟨yk, yi, yt, yl, yA, yc, yks, yB, yd⟩, rfl, hyo1, hyt1, rfl⟩
        conv => whnf
        intro b10
        conv => whnf
        refine OOK.call [1] rfl rfl rfl (by kernel_rfl) rfl (f_rerr g8 r A D.length c _) (by decide) rfl ?_
        rintro v_ g9 m_ hg9 ⟨rfl, rfl⟩
        conv => whnf
        refine ⟨(by intro q; cases q), fun _ => ?_⟩
        conv => whnf
        intro bv
        conv => whnf
        refine OOK.appendRowB (Val.mk yk yi yt yl yA yc yks yB yd) 5 Val.len rfl rfl rfl rfl (.inl ⟨_, rfl⟩) rfl (size := 5) (bytes := 80) rfl rfl rfl (by decide) rfl rfl hOV (Src.own (i := 9) (q := 0) rfl rfl (fun j v hj => by rw [Nat.zero_add]; exact hj)) (Val.one _) (by omega) ?_
        intro sV' vA' vc' hOV'
        conv => whnf
        have ez : cnt + sizs (its.take i) + x.siz = cnt + sizs (its.take (i + 1)) := by omega
        have ep : p1 + (vint (zz y.length)).length + y.length + x.enc.length = p0 + (encs (decide (k = 5)) (its.take (i + 1)) ks).length := by rw [htk, hp1]; simp only [List.length_append]; omega
        have ey : ys.length + 1 = (ys ++ [Val.mk yk yi yt yl yA yc yks yB yd]).length := by rw [List.length_append]; rfl
        rw [ez, ep, ey]
        have ek : (ks.take i).length + 1 = (ks.take (i + 1)).length := by rw [take_get hy, List.length_append]; rfl
        rw [ek]
        rw [← take_get hy] at hOK'
        exact ⟨⟨i + 1, ys ++ [Val.mk yk yi yt yl yA yc yks yB yd], sK', kA', kc', sV', vA', vc'⟩, [0, 1, 2, 3, 7, 10], Sub.of (by decide) rfl ⟨rfl, rfl, rfl, rfl, rfl, int_eq (i64_in (by omega) (by omega)), trivial⟩, ⟨hlt, hOK', hOV', by rw [List.length_append, hyl]; rfl, (fun z hz => by
          rcases List.mem_append.1 hz with hz | hz
          · exact (hyo z hz).mono (hg4.trans (hg5.trans (hg8.trans hg9)))
          · obtain rfl := List.mem_singleton.1 hz
            exact hyo1.mono hg9), by rw [List.map_append, hyt, take_get hx, List.map_cons, hyt1]; rfl⟩, by show its.length - (i + 1) < its.length - i; omega⟩
    · have hk' : k ≠ 5 := by simpa using q5
      have hks := hk4 (by omega)
      have ek : (ks.take i).length = (ks.take (i + 1)).length := by rw [hks, List.take_nil, List.take_nil]
      have hOK1 : OwnAt 9 1 encK (ks.take (i + 1)) sK kA kc := by rw [hks, List.take_nil] at hOK ⊢; exact hOK
      rw [if_neg (by simp [hk'] : ¬ decide (k = 5) = true), List.nil_append] at hdp1 hp1l
      rw [if_neg (by simp [hk'] : ¬ decide (k = 5) = true), List.append_nil] at htk
      rw [List.length_append] at hp1l
      conv => whnf
      rw [hdep1]
      refine OOK.call [0, 1] rfl rfl rfl (by kernel_rfl) rfl (h x hmem g3 (cnt + sizs (its.take i)) (p1) (encs (decide (k = 5)) (its.drop (i + 1)) (ks.drop (i + 1)) ++ rest) (hg03) (by omega) (by rw [hdp1, List.append_assoc]) (by omega)) (by decide) rfl ?_
      rintro v_ g8 m_ hg8 ⟨⟨yk, yi, yt, yl, yA, yc, yks, yB, yd⟩, rfl, hyo1, hyt1, rfl⟩
      conv => whnf
      intro b10
      conv => whnf
      refine OOK.call [1] rfl rfl rfl (by kernel_rfl) rfl (f_rerr g8 r A D.length c _) (by decide) rfl ?_
      rintro v_ g9 m_ hg9 ⟨rfl, rfl⟩
      conv => whnf
      refine ⟨(by intro q; cases q), fun _ => ?_⟩
      conv => whnf
      intro bv
      conv => whnf
      refine OOK.appendRowB (Val.mk yk yi yt yl yA yc yks yB yd) 5 Val.len rfl rfl rfl rfl (.inl ⟨_, rfl⟩) rfl (size := 5) (bytes := 80) rfl rfl rfl (by decide) rfl rfl hOV (Src.own (i := 7) (q := 0) rfl rfl (fun j v hj => by rw [Nat.zero_add]; exact hj)) (Val.one _) (by omega) ?_
      intro sV' vA' vc' hOV'
      conv => whnf
      rw [ek]
      have ez : cnt + sizs (its.take i) + x.siz = cnt + sizs (its.take (i + 1)) := by omega
      have ep : p1 + x.enc.length = p0 + (encs (decide (k = 5)) (its.take (i + 1)) ks).length := by rw [htk, hp1]; simp only [List.length_append]; omega
      have ey : ys.length + 1 = (ys ++ [Val.mk yk yi yt yl yA yc yks yB yd]).length := by rw [List.length_append]; rfl
      rw [ez, ep, ey]
      exact ⟨⟨i + 1, ys ++ [Val.mk yk yi yt yl yA yc yks yB yd], sK, kA, kc, sV', vA', vc'⟩, [0, 1, 2, 3, 4, 8], Sub.of (by decide) rfl ⟨rfl, rfl, rfl, rfl, rfl, int_eq (i64_in (by omega) (by omega)), trivial⟩, ⟨hlt, hOK1, hOV', by rw [List.length_append, hyl]; rfl, (fun z hz => by
        rcases List.mem_append.1 hz with hz | hz
        · exact (hyo z hz).mono (hg8.trans hg9)
        · obtain rfl := List.mem_singleton.1 hz
          exact hyo1.mono hg9), by rw [List.map_append, hyt, take_get hx, List.map_cons, hyt1]; rfl⟩, by show its.length - (i + 1) < its.length - i; omega⟩
  · have hid : i = its.length := by omega
    have hkt : ks.take i = ks := by
      rcases hk with h | h
      · rw [hk4 h, List.take_nil]
      · rw [hid, ← (hk5 h).1, List.take_length]
    have hit : its.take i = its := by rw [hid, List.take_length]
    have hkll : ks.length ≤ 4 := by
      rcases hk with h | h
      · rw [hk4 h]; simp
      · rw [(hk5 h).1]; exact hn
    rw [hkt] at hOK ⊢
    rw [hit] at hyt hp1 ⊢
    have hl1 := hOK.le
    have hl2 := hOV.le
    refine COK.rowF 4 hOK rfl ?_
    intro g4 hg4 hRK
    refine COK.rowF 5 hOV rfl ?_
    intro g5 hg5 hRV
    refine vcC_ok _ _ _ _ _ ?_
    conv => whnf
    refine ⟨fun h1 => absurd (of_decide_eq_true h1) (by omega), fun _ => ?_⟩
    conv => whnf
    rw [hp1, hp0]
    exact .mk ⟨_, [0, 1], _, rfl, by decide, rfl, ⟨rfl, rfl, trivial⟩, Val.mk k 0 [] ys vA vc ks kA kc, rfl, .mk hRV (hRK.mono hg5) hl2 hl1 ⟨by omega, by omega⟩ (fun z hz => (hyo z hz).mono (hg4.trans hg5)), by rw [Val.t_mk, hyt], rfl⟩
end Go.Proofs.YthkfnmmbjoadbaaGreatDoor
/- WholeTexts: reading a payload from bytes: the walk. -/
set_option linter.unusedVariables false
set_option linter.unusedSimpArgs false
set_option maxRecDepth 100000
namespace Go.Proofs.YthkfnmmbjoadbaaGreatDoor
open Go Go.SX

theorem Val.okS (g : GH) (k i : Int) (s : List UInt8) : (Val.mk k i s [] none 0 [] none 0).Ok g := .mk (fun h => absurd rfl h) (fun h => absurd rfl h) (Nat.le_refl _) (Nat.le_refl _) ⟨by simp, by simp⟩ (fun x hx => by cases hx)
theorem f_dval (q r : Nat) (A : Option Addr) (D : List UInt8) (c : Nat) (hD : D.length ≤ 80000) (hc : D.length ≤ c) (t : T) : ∀ (d : Nat) (dep : Int) (g : GH) (cnt pos : Nat) (rest : List UInt8), Row g encB A D → WF d t → 1 ≤ dep → dep + d ≤ 12 → pos ≤ D.length → D.drop pos = t.enc ++ rest → cnt + t.siz ≤ 1000 →
    Tri Tryz.prog 53 [.pointer (some ⟨q, 0, none⟩), .int .i64 dep] g [dcS q r cnt, rdS r A D.length c pos] fun v g' m' => ∃ y : Val, v = y.val ∧ y.Ok g' ∧ y.t = t ∧ m' = [dcS q r (cnt + t.siz), rdS r A D.length c (pos + t.enc.length)] := by
  induction t using T.ind with
  | h kind int text its keys ih =>
    intro d dep g cnt pos rest hA hw hdep1 hdepd hpos hd hcnt
    have hinv := hw.inv
    rw [T.siz] at hcnt ⊢
    rw [T.enc] at hd ⊢
    have hdl := congrArg List.length hd
    rw [List.length_drop, List.length_append, List.length_append] at hdl
    have hkr : -9223372036854775808 ≤ kind ∧ kind ≤ 9223372036854775807 := by rcases hinv with ⟨h, _⟩ | ⟨h, _⟩ | ⟨h, _⟩ | ⟨h, _⟩ | ⟨_, _, h, _⟩ | ⟨_, _, h, _⟩ <;> omega
    have hkr5 : 0 ≤ kind ∧ kind ≤ 5 := by rcases hinv with ⟨h, _⟩ | ⟨h, _⟩ | ⟨h, _⟩ | ⟨h, _⟩ | ⟨_, _, h, _⟩ | ⟨_, _, h, _⟩ <;> omega
    have b1 : decide (dep ≤ 16) = true := decide_eq_true (by omega)
    have b2 : decide (kind ≤ 5) = true := decide_eq_true hkr5.2
    refine Tri.vc [.own 0 0, .val (.int .i64 dep)] Tryz.func53 rfl Tryz.ntmps53 rfl rfl ?_
    conv => whnf
    intro b4
    conv => whnf
    refine ⟨fun _ => ?_, fun h1 => absurd (of_decide_eq_false h1) (by omega)⟩
    conv => whnf
    rw [b1]
    refine OOK.call [0, 1] rfl rfl rfl (by kernel_rfl) rfl (f_ok g q r A D.length c pos cnt) (by decide) rfl ?_
    rintro v_ g1 m_ hg1 ⟨rfl, rfl⟩
    conv => whnf
    refine ⟨(by intro q; cases q), fun _ => ?_⟩
    conv => whnf
    have e1 : IntKind.i64.wrap ((cnt : Int) + 1) = ((cnt + 1 : Nat) : Int) := by rw [i64_in (by omega) (by omega)]; omega
    rw [e1]
    refine OOK.call [1] rfl rfl rfl (by kernel_rfl) rfl (f_rint g1 r A D c pos kind (-9223372036854775808) 9223372036854775807 (hA.mono hg1) hD hc hpos _ (by rw [hd, List.append_assoc]) hkr.1 hkr.2 hkr.1 hkr.2) (by decide) rfl ?_
    rintro v_ g2 m_ hg2 ⟨rfl, rfl⟩
    conv => whnf
    intro b5
    conv => whnf
    refine ⟨fun _ => ?_, fun h1 => absurd (of_decide_eq_false h1) (by omega)⟩
    conv => whnf
    rw [b2]
    obtain ⟨p1, hp1⟩ : ∃ p, p = pos + (vint (zz kind)).length := ⟨_, rfl⟩
    rw [← hp1]
    refine OOK.call [0, 1] rfl rfl rfl (by kernel_rfl) rfl (f_ok g2 q r A D.length c p1 (cnt + 1)) (by decide) rfl ?_
    rintro v_ g3 m_ hg3 ⟨rfl, rfl⟩
    conv => whnf
    refine ⟨(by intro q; cases q), fun _ => ?_⟩
    conv => whnf
    have hg03 := hg1.trans (hg2.trans hg3)
    obtain ⟨E, hE⟩ : ∃ E, E = (if kind = 1 ∨ kind = 2 then vint (zz int) else if kind = 3 then vint (zz text.length) ++ text else (if kind = 4 ∨ kind = 5 then vint (zz its.length) else []) ++ encs (decide (kind = 5)) its keys) := ⟨_, rfl⟩
    rw [← hE] at hd hdl ⊢
    have hd1 : D.drop p1 = E ++ rest := by rw [hp1, ← List.drop_drop, hd, List.append_assoc, List.drop_left]
    have hP : pos + (vint (zz kind) ++ E).length = p1 + E.length := by rw [List.length_append, hp1]; omega
    have hS : cnt + (1 + sizs its) = cnt + 1 + sizs its := by omega
    rw [hP, hS]
    rcases hinv with ⟨rfl, rfl, rfl, rfl, rfl⟩ | ⟨rfl, hb, rfl, rfl, rfl⟩ | ⟨rfl, h1, h2, rfl, rfl, rfl⟩ | ⟨rfl, rfl, hl, rfl, rfl⟩ | ⟨d', rfl, rfl, rfl, rfl, rfl, hl, hi'⟩ | ⟨d', rfl, rfl, rfl, rfl, hkl, hl, hs, h6, hi'⟩
    · have hE' : E = [] := by rw [hE, if_neg (by decide), if_neg (by decide), if_neg (by decide), encs]; rfl
      refine ⟨(by intro q; cases q), fun _ => ?_⟩
      conv => whnf
      refine ⟨(by intro q; cases q), fun _ => ?_⟩
      conv => whnf
      refine ⟨(by intro q; cases q), fun _ => ?_⟩
      conv => whnf
      refine ⟨(by intro q; cases q), fun _ => ?_⟩
      conv => whnf
      refine ⟨(by intro q; cases q), fun _ => ?_⟩
      conv => whnf
      rw [hE']
      exact .mk ⟨_, [0, 1], _, rfl, by decide, rfl, ⟨rfl, rfl, trivial⟩, Val.mk 0 0 [] [] none 0 [] none 0, rfl, Val.okS _ _ _ _, rfl, rfl⟩
    · have hE' : E = vint (zz int) := by rw [hE, if_pos (by decide)]
      refine ⟨fun _ => ?_, (by intro q; cases q)⟩
      conv => whnf
      refine OOK.call [1] rfl rfl rfl (by kernel_rfl) rfl (f_rint g3 r A D c p1 int (-9223372036854775808) 9223372036854775807 (hA.mono hg03) hD hc (by omega) rest (by rw [hd1, hE']) (by omega) (by omega) (by omega) (by omega)) (by decide) rfl ?_
      rintro v_ g4 m_ hg4 ⟨rfl, rfl⟩
      conv => whnf
      rcases hb with rfl | rfl
      · refine ⟨fun _ => ?_, (by intro q; cases q)⟩
        conv => whnf
        refine OOK.call [0, 1] rfl rfl rfl (by kernel_rfl) rfl (f_ok g4 q r A D.length c (p1 + (vint (zz 0)).length) (cnt + 1)) (by decide) rfl ?_
        rintro v_ g5 m_ hg5 ⟨rfl, rfl⟩
        conv => whnf
        rw [hE']
        exact .mk ⟨_, [0, 1], _, rfl, by decide, rfl, ⟨rfl, rfl, trivial⟩, Val.mk 1 0 [] [] none 0 [] none 0, rfl, Val.okS _ _ _ _, rfl, rfl⟩
      · refine ⟨(by intro q; cases q), fun _ => ?_⟩
        conv => whnf
        refine OOK.call [0, 1] rfl rfl rfl (by kernel_rfl) rfl (f_ok g4 q r A D.length c (p1 + (vint (zz 1)).length) (cnt + 1)) (by decide) rfl ?_
        rintro v_ g5 m_ hg5 ⟨rfl, rfl⟩
        conv => whnf
        rw [hE']
        exact .mk ⟨_, [0, 1], _, rfl, by decide, rfl, ⟨rfl, rfl, trivial⟩, Val.mk 1 1 [] [] none 0 [] none 0, rfl, Val.okS _ _ _ _, rfl, rfl⟩
    · have hE' : E = vint (zz int) := by rw [hE, if_pos (by decide)]
      refine ⟨(by intro q; cases q), fun _ => ?_⟩
      conv => whnf
      refine ⟨fun _ => ?_, (by intro q; cases q)⟩
      conv => whnf
      refine OOK.call [1] rfl rfl rfl (by kernel_rfl) rfl (f_rint g3 r A D c p1 int (-9223372036854775808) 9223372036854775807 (hA.mono hg03) hD hc (by omega) rest (by rw [hd1, hE']) (by omega) (by omega) (by omega) (by omega)) (by decide) rfl ?_
      rintro v_ g4 m_ hg4 ⟨rfl, rfl⟩
      conv => whnf
      rw [hE']
      exact .mk ⟨_, [0, 1], _, rfl, by decide, rfl, ⟨rfl, rfl, trivial⟩, Val.mk 2 int [] [] none 0 [] none 0, rfl, Val.okS _ _ _ _, rfl, rfl⟩
    · have hE' : E = vint (zz text.length) ++ text := by rw [hE, if_neg (by decide), if_pos rfl]
      refine ⟨(by intro q; cases q), fun _ => ?_⟩
      conv => whnf
      refine ⟨(by intro q; cases q), fun _ => ?_⟩
      conv => whnf
      refine ⟨fun _ => ?_, (by intro q; cases q)⟩
      conv => whnf
      refine OOK.call [1] rfl rfl rfl (by kernel_rfl) rfl (f_rtext g3 r A D c p1 text (hA.mono hg03) hD hc (by omega) rest (by rw [hd1, hE'])) (by decide) rfl ?_
      rintro v_ g4 m_ hg4 ⟨rfl, rfl⟩
      conv => whnf
      have hb4 : decide (((str text).size : Int) ≤ 4096) = true := decide_eq_true (by rw [str_size]; omega)
      rw [hb4]
      refine OOK.call [0, 1] rfl rfl rfl (by kernel_rfl) rfl (f_ok g4 q r A D.length c (p1 + (vint (zz text.length)).length + text.length) (cnt + 1)) (by decide) rfl ?_
      rintro v_ g5 m_ hg5 ⟨rfl, rfl⟩
      conv => whnf
      rw [hE', List.length_append, ← Nat.add_assoc]
      exact .mk ⟨_, [0, 1], _, rfl, by decide, rfl, ⟨rfl, rfl, trivial⟩, Val.mk 3 0 text [] none 0 [] none 0, rfl, Val.okS _ _ _ _, rfl, rfl⟩
    · have hE' : E = vint (zz its.length) ++ encs (decide ((4 : Int) = 5)) its [] := by rw [hE, if_neg (by decide), if_neg (by decide), if_pos (by decide)]
      refine ⟨(by intro q; cases q), fun _ => ?_⟩
      conv => whnf
      refine ⟨(by intro q; cases q), fun _ => ?_⟩
      conv => whnf
      refine ⟨(by intro q; cases q), fun _ => ?_⟩
      conv => whnf
      refine ⟨fun _ => ?_, (by intro q; cases q)⟩
      conv => whnf
      refine ⟨fun _ => ?_, (by intro q; cases q)⟩
      conv => whnf
      have hsz : cnt + 1 + sizs its ≤ 1000 := by omega
      refine OOK.call [0, 1] rfl rfl rfl (by kernel_rfl) rfl (f_items g3 q r (cnt + 1) A D c p1 4 dep its [] rest (hA.mono hg03) hD hc (by omega) (by decide) hl (fun _ => rfl) (fun h => absurd h (by decide)) (by rw [hd1, hE']) hsz ⟨by omega, by omega⟩ (fun x hx g1' cnt1 pos1 rest1 hg1' hp hdd hc1 => ih x hx d' (dep + 1) g1' cnt1 pos1 rest1 (hA.mono (hg03.trans hg1')) (hi' x hx) (by omega) (by omega) hp hdd hc1)) (by decide) rfl ?_
      rintro v_ g4 m_ hg4 ⟨⟨yk, yi, yt, yl, yA, yc, yks, yB, yd⟩, rfl, hyo, hyt, rfl⟩
      conv => whnf
      rw [hE', List.length_append, ← Nat.add_assoc]
      exact .mk ⟨_, [0, 1], _, rfl, by decide, rfl, ⟨rfl, rfl, trivial⟩, Val.mk yk yi yt yl yA yc yks yB yd, rfl, hyo, hyt, rfl⟩
    · have hE' : E = vint (zz its.length) ++ encs (decide ((5 : Int) = 5)) its keys := by rw [hE, if_neg (by decide), if_neg (by decide), if_pos (by decide)]
      refine ⟨(by intro q; cases q), fun _ => ?_⟩
      conv => whnf
      refine ⟨(by intro q; cases q), fun _ => ?_⟩
      conv => whnf
      refine ⟨(by intro q; cases q), fun _ => ?_⟩
      conv => whnf
      refine ⟨(by intro q; cases q), fun _ => ?_⟩
      conv => whnf
      refine ⟨fun _ => ?_, (by intro q; cases q)⟩
      conv => whnf
      have hsz : cnt + 1 + sizs its ≤ 1000 := by omega
      refine OOK.call [0, 1] rfl rfl rfl (by kernel_rfl) rfl (f_items g3 q r (cnt + 1) A D c p1 5 dep its keys rest (hA.mono hg03) hD hc (by omega) (by decide) hl (fun h => absurd h (by decide)) (fun _ => ⟨hkl, hs, h6⟩) (by rw [hd1, hE']) hsz ⟨by omega, by omega⟩ (fun x hx g1' cnt1 pos1 rest1 hg1' hp hdd hc1 => ih x hx d' (dep + 1) g1' cnt1 pos1 rest1 (hA.mono (hg03.trans hg1')) (hi' x hx) (by omega) (by omega) hp hdd hc1)) (by decide) rfl ?_
      rintro v_ g4 m_ hg4 ⟨⟨yk, yi, yt, yl, yA, yc, yks, yB, yd⟩, rfl, hyo, hyt, rfl⟩
      conv => whnf
      rw [hE', List.length_append, ← Nat.add_assoc]
      exact .mk ⟨_, [0, 1], _, rfl, by decide, rfl, ⟨rfl, rfl, trivial⟩, Val.mk yk yi yt yl yA yc yks yB yd, rfl, hyo, hyt, rfl⟩
theorem f_decode (r : Nat) (A : Option Addr) (D : List UInt8) (c : Nat) (t : T) (g : GH) (hA : Row g encB A D) (hc : D.length ≤ c) (hw : WF 4 t) (hD : D = t.enc) :
    Tri Tryz.prog 18 [.pointer (some ⟨r, 0, none⟩)] g [rdS r A D.length c 0] fun v g' m' => ∃ y : Val, v = y.val ∧ y.Ok g' ∧ y.t = t ∧ m' = [rdS r A D.length c D.length] := by
  have hl := enc_len _ _ hw
  have hN : encN 4 ≤ 20000 := by decide
  have hs := siz_len _ _ hw
  have hB : szB 4 ≤ 1000 := by decide
  have t1 := fun q g' (hg' : g.le g') => f_dval q r A D c (by rw [hD]; omega) hc t 4 1 g' 0 0 [] (hA.mono hg') hw (by omega) (by omega) (Nat.zero_le _) (by rw [hD, List.append_nil]; rfl) (by omega)
  rw [← hD, Nat.zero_add, Nat.zero_add] at t1
  refine Tri.vc [.own 0 0] Tryz.func18 rfl Tryz.ntmps18 rfl rfl ?_
  conv => whnf
  intro b2
  conv => whnf
  refine ⟨(by intro q; cases q), fun _ => ?_⟩
  conv => whnf
  refine OOK.call [0] rfl rfl rfl (by kernel_rfl) rfl (f_rerr g r A D.length c 0) (by decide) rfl ?_
  rintro v_ g1 m_ hg1 ⟨rfl, rfl⟩
  conv => whnf
  refine ⟨(by intro q; cases q), fun _ => ?_⟩
  conv => whnf
  intro q
  conv => whnf
  refine OOK.call [2, 0] rfl rfl rfl (by kernel_rfl) rfl (t1 q g1 hg1) (by decide) rfl ?_
  rintro v_ g2 m_ hg2 ⟨⟨yk, yi, yt, yl, yA, yc, yks, yB, yd⟩, rfl, hyo, hyt, rfl⟩
  conv => whnf
  intro b4
  conv => whnf
  refine OOK.call [0] rfl rfl rfl (by kernel_rfl) rfl (f_rerr g2 r A D.length c D.length) (by decide) rfl ?_
  rintro v_ g3 m_ hg3 ⟨rfl, rfl⟩
  conv => whnf
  refine ⟨(by intro q; cases q), fun _ => ?_⟩
  conv => whnf
  exact .mk ⟨_, [0], _, rfl, by decide, rfl, ⟨rfl, trivial⟩, Val.mk yk yi yt yl yA yc yks yB yd, rfl, hyo.mono hg3, hyt, rfl⟩
end Go.Proofs.YthkfnmmbjoadbaaGreatDoor
