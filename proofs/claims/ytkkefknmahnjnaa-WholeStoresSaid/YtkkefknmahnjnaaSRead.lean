/- WholeStores: the records of a file. -/
import Derived.Test.YtkkefknmahnjnaaSFrame
set_option linter.unusedVariables false
set_option linter.unusedSimpArgs false
set_option maxRecDepth 100000
namespace Go.Proofs.Ytkkefknmahnjnaa
open Go Go.SX

/-- A record in memory. -/
structure Rec where
  A : Option Addr
  c : Nat
  l : List UInt8
def Rec.enc (r : Rec) : List Value := [.slice r.A r.l.length r.c]
theorem Rec.len (r : Rec) : r.enc.length = 1 := rfl
theorem Rec.one (r : Rec) : ∀ v ∈ r.enc, v.oneCell' = true := by
  intro v hv
  obtain rfl := List.mem_singleton.1 hv
  rfl
def framesL (ls : List (List UInt8)) : List UInt8 := ls.flatMap frameL
/-- What is left behind the last whole frame. -/
def Short (t : List UInt8) : Prop := t.length < 8 ∨ ((0 : Int) ≤ (t.take 4).foldl numStep 0 ∧ (t.take 4).foldl numStep 0 ≤ 65536 ∧ (t.length : Int) - 8 < (t.take 4).foldl numStep 0)
theorem row_sub {g : GH} {a : Addr} {l : List UInt8} (h : Row g encB (some a) l) (i n : Nat) : Row g encB (some (addN a (i * 1))) ((l.drop i).take n) := fun hne => by
  have hl : l ≠ [] := fun e => by subst e; simp at hne
  obtain ⟨a', h1, h2⟩ := h hl
  obtain rfl := Option.some.inj h1
  refine ⟨_, rfl, fun j v hj => ?_⟩
  rw [addN_add]
  refine h2 _ v ?_
  have e1 := (List.getElem?_eq_some_iff.1 hj).1
  rw [flat_len encB_len, List.length_take, List.length_drop] at e1
  have hlt : i * 1 + j < l.length := by omega
  have e2 := flat_get encB_len l (i * 1 + j) 0 l[i * 1 + j] (.int .u8 (l[i * 1 + j].toNat : Int)) (List.getElem?_eq_getElem hlt) rfl
  have e3 := flat_get encB_len ((l.drop i).take n) j 0 l[i * 1 + j] (.int .u8 (l[i * 1 + j].toNat : Int)) (by rw [List.getElem?_take_of_lt (by omega), List.getElem?_drop, ← List.getElem?_eq_getElem hlt, Nat.mul_one]) rfl
  simp only [Nat.mul_one, Nat.add_zero] at e2 e3
  rw [e3] at hj
  rw [Nat.mul_one]
  rw [e2]
  simpa using hj
theorem OOK.toArr {P : Program} {n : Nat} {o : Oper} {e : Env} {m : Mem} {g : GH} {K : Env → Mem → GH → Prop} {t el : TypeId} {x : Operand} {a : Addr} {k c N : Nat} (hop : o.op = .sliceToArrayPointer t x) (hx : e.va m x = some (.slice (some a) k c)) (ht : P.underlying t = some (.array N el)) (hk : N ≤ k)
    (h : putK n o.dst (.val (.pointer (some a))) e fun e => K e m g) : OOK P n o e m g K := by
  refine OOK.val rfl (fun a w ha hw => ?_) h
  have : ¬ (k < N) := by omega
  simp only [execOp, hop, ha.va hx, Instr.arrayAt, Sem.run_bind, run_underlying ht, Result.andThen_ok, this, if_false, Sem.run_pure]
theorem take8 {R : List UInt8} (h : 8 ≤ R.length) : ∃ x0 x1 x2 x3 x4 x5 x6 x7 R', R = x0 :: x1 :: x2 :: x3 :: x4 :: x5 :: x6 :: x7 :: R' := by
  have key : ∀ (l : List UInt8) (n : Nat), n + 1 ≤ l.length → ∃ x r, l = x :: r ∧ n ≤ r.length := fun l n hl => by
    cases l with
    | nil => simp at hl
    | cons x r => exact ⟨x, r, rfl, by simpa using hl⟩
  obtain ⟨x0, r0, rfl, h0⟩ := key R 7 h
  obtain ⟨x1, r1, rfl, h1⟩ := key r0 6 h0
  obtain ⟨x2, r2, rfl, h2⟩ := key r1 5 h1
  obtain ⟨x3, r3, rfl, h3⟩ := key r2 4 h2
  obtain ⟨x4, r4, rfl, h4⟩ := key r3 3 h3
  obtain ⟨x5, r5, rfl, h5⟩ := key r4 2 h4
  obtain ⟨x6, r6, rfl, h6⟩ := key r5 1 h5
  obtain ⟨x7, r7, rfl, h7⟩ := key r6 0 h6
  exact ⟨_, _, _, _, _, _, _, _, _, rfl⟩
structure Rd where
  rs : List Rec
  s : Slot
  A : Option Addr
  c : Nat
structure Rd.ok (ls : List (List UInt8)) (g : GH) (x : Rd) : Prop where
  map : x.rs.map Rec.l = ls.take x.rs.length
  le : x.rs.length ≤ ls.length
  own : OwnAt 22 1 Rec.enc x.rs x.s x.A x.c
  rows : ∀ r ∈ x.rs, Row g encB r.A r.l
def Rd.at_ (ls : List (List UInt8)) (x : Rd) : Nat := (framesL (ls.take x.rs.length)).length
set_option maxHeartbeats 4000000 in
theorem f_read (g : GH) (A : Option Addr) (c : Nat) (b : List UInt8) (ls : List (List UInt8)) (tail : List UInt8) (hb : b = framesL ls ++ tail) (hA : Row g encB A b) (hc : b.length ≤ c) (hl : b.length ≤ 100000) (ht : Short tail) (hls : ls.length ≤ 1000) (hl1 : ∀ l ∈ ls, l.length ≤ 65536) :
    Tri Try.prog 41 [.slice A b.length c] g [] fun v g' m' => ∃ (x : Rd), x.ok ls g' ∧ x.rs.length = ls.length ∧ v = .tuple #[.slice x.A x.rs.length x.c, .int .i64 (framesL ls).length, .int .i64 0] ∧ m' = [x.s] := by
  refine Tri.vc [.val (.slice A b.length c)] Try.func41 rfl Try.ntmps41 rfl rfl ?_
  conv => whnf
  refine COK.dummy 0 ?_
  refine COK.loop (α := Rd) (fun x => [(0, .val (.slice A b.length c)), (5, .val (.slice x.A x.rs.length x.c)), (6, .val (.int .i64 (x.at_ ls)))]) (fun x => [x.s]) (fun x g => x.ok ls g) (fun x => ls.length - x.rs.length) ⟨[], ⟨0, .dead⟩, none, 0⟩ [0] (Sub.of (by decide) rfl ⟨rfl, rfl, rfl, trivial⟩) ⟨rfl, Nat.zero_le _, .nil _ rfl, fun r hr => by simp at hr⟩ ?_
  rintro x g1 hg1 ⟨hmap, hle, hown, hrows⟩
  refine vcC_ok _ _ _ _ _ ?_
  obtain ⟨at_, hat⟩ : ∃ at_, at_ = x.at_ ls := ⟨_, rfl⟩
  obtain ⟨k, hk⟩ : ∃ k, k = x.rs.length := ⟨_, rfl⟩
  have hbk : b = framesL (ls.take k) ++ (framesL (ls.drop k) ++ tail) := by
    rw [hb]
    conv => lhs; rw [← List.take_append_drop k ls]
    unfold framesL
    rw [List.flatMap_append, List.append_assoc]
  have hatk : at_ = (framesL (ls.take k)).length := by rw [hat, hk]; rfl
  obtain ⟨R, hR⟩ : ∃ R, R = framesL (ls.drop k) ++ tail := ⟨_, rfl⟩
  have hbd : b.drop at_ = R := by rw [hbk, hatk, List.drop_left' rfl, hR]
  have hbl : b.length = at_ + R.length := by rw [hbk, List.length_append, ← hatk, ← hR]
  have hw1 : IntKind.i64.wrap ((b.length : Int) - (at_ : Int)) = (R.length : Int) := by rw [i64_in (by omega) (by omega)]; omega
  have hdone : ∀ g2, g1.le g2 → k = ls.length → ∃ y : Rd, y.ok ls g2 ∧ y.rs.length = ls.length ∧ tup [Value.slice x.A x.rs.length x.c, .int .i64 (at_ : Int), .int .i64 0] = .tuple #[.slice y.A y.rs.length y.c, .int .i64 (framesL ls).length, .int .i64 0] ∧ ([x.s] : Mem) = [y.s] := fun g2 hg2 he => by
    refine ⟨x, ⟨hmap, hle, hown, fun r hr => (hrows r hr).mono hg2⟩, by omega, ?_, rfl⟩
    have : at_ = (framesL ls).length := by rw [hatk, he, List.take_length]
    rw [this]; rfl
  have hsplit : k < ls.length → ∃ l R2, ls[k]? = some l ∧ R = frameL l ++ R2 ∧ R2 = framesL (ls.drop (k + 1)) ++ tail := fun hkl => by
    refine ⟨ls[k], _, List.getElem?_eq_getElem hkl, ?_, rfl⟩
    rw [hR, List.drop_eq_getElem_cons hkl]
    unfold framesL
    rw [List.flatMap_cons, List.append_assoc]
  rw [← hat]
  conv => whnf
  rw [hw1]
  refine ⟨fun q => ?_, fun q => ?_⟩
  · have hR8 : 8 ≤ R.length := by have := of_decide_eq_true q; omega
    obtain ⟨x0, x1, x2, x3, x4, x5, x6, x7, R', hRx⟩ := take8 hR8
    have hne : b ≠ [] := fun e => by rw [e] at hbl; simp at hbl; omega
    obtain ⟨a, rfl, _⟩ := hA hne
    conv => whnf
    refine ⟨⟨by omega, by omega⟩, ?_⟩
    rw [if_neg (by show ¬ c = at_; omega)]
    conv => whnf
    refine OOK.toArr rfl rfl rfl (by show 8 ≤ b.length - at_; omega) ?_
    conv => whnf
    have hrd := row_sub (hA.mono hg1) at_ 8
    rw [hbd, hRx] at hrd
    obtain ⟨a', ha', hrd⟩ := hrd (by simp)
    obtain rfl := Option.some.inj ha'
    refine OOK.yn (YN.loads (cs := [x0, x1, x2, x3, x4, x5, x6, x7].flatMap encB) rfl rfl rfl hrd ?_)
    conv => whnf
    intro b7
    conv => whnf
    refine OOK.freeze 1 rfl rfl fun g2 hg2 hb7 => ?_
    refine OOK.yn (YN.sliceArr (b := b7) (q := 0) (N := 8) 0 4 rfl rfl rfl rfl (size := 1) rfl (.inl ⟨rfl, rfl⟩) (.inr ⟨_, rfl, rfl⟩) (by decide) (by decide) (by decide) ?_)
    conv => whnf
    have hrow4 : Row g2 encB (some ⟨b7, 0, none⟩) [x0, x1, x2, x3] := row_of (rest := [x4, x5, x6, x7].flatMap encB) (el := 83) hb7
    refine OOK.call [] rfl rfl rfl (by kernel_rfl) rfl (f_number g2 (some ⟨b7, 0, none⟩) 8 [x0, x1, x2, x3] hrow4 (by simp)) (by decide) rfl ?_
    rintro v_ g3 m_ hg3 ⟨rfl, rfl⟩
    obtain ⟨N, hN⟩ : ∃ N, N = [x0, x1, x2, x3].foldl numStep 0 := ⟨_, rfl⟩
    conv => whnf
    rw [← hN]
    by_cases hkl : k < ls.length
    · obtain ⟨l, R2, hl0, hR2, hR2e⟩ := hsplit hkl
      have hll : l.length ≤ 65536 := hl1 l (List.mem_of_getElem? hl0)
      have hhead : [x0, x1, x2, x3, x4, x5, x6, x7] = headL l.length (crcF l) ∧ R' = l ++ R2 := by
        rw [hR2] at hRx
        unfold frameL headL at hRx
        simp only [List.cons_append, List.nil_append, List.append_assoc, List.cons.injEq] at hRx
        obtain ⟨rfl, rfl, rfl, rfl, rfl, rfl, rfl, rfl, h⟩ := hRx
        exact ⟨rfl, h.symm⟩
      have hNl : N = l.length := by
        have h1 := hhead.1
        unfold headL at h1
        simp only [List.cons.injEq, and_true] at h1
        obtain ⟨rfl, rfl, rfl, rfl, _⟩ := h1
        rw [hN]; exact num_bytes l.length (by omega) (by omega)
      have hRl : R.length = 8 + l.length + R2.length := by
        rw [hRx, hhead.2]; simp; omega
      rw [hNl]
      refine ⟨fun q2 => absurd (of_decide_eq_true q2) (by omega), fun _ => ?_⟩
      conv => whnf
      rw [hw1, i64_in (x := (R.length : Int) - 8) (by omega) (by omega)]
      refine ⟨fun q2 => absurd (of_decide_eq_true q2) (by omega), fun _ => ?_⟩
      conv => whnf
      have hw8 : IntKind.i64.wrap ((at_ : Int) + 8) = ((at_ + 8 : Nat) : Int) := by rw [i64_in (by omega) (by omega)]; omega
      have hw9 : IntKind.i64.wrap (((at_ + 8 : Nat) : Int) + (l.length : Int)) = ((at_ + 8 + l.length : Nat) : Int) := by rw [i64_in (by omega) (by omega)]; omega
      rw [hw8, hw9]
      refine ⟨⟨⟨by omega, by omega⟩, by omega, by show ((at_ + 8 : Nat) : Int) ≤ ((at_ + 8 + l.length : Nat) : Int); omega⟩, ?_⟩
      conv => whnf
      have hlen9 : at_ + 8 + l.length - (at_ + 8) = l.length := by omega
      have hrow9 : Row g3 encB (if c = at_ + 8 then some a else some (addN a ((at_ + 8) * 1))) l := by
        intro hne2
        have hlp := List.length_pos_iff.2 hne2
        rw [if_neg (by omega)]
        have h9 := row_sub (((hA.mono hg1).mono hg2).mono hg3) (at_ + 8) l.length
        have e9 : (b.drop (at_ + 8)).take l.length = l := by
          rw [← List.drop_drop, hbd, hRx, hhead.2]
          exact List.take_left' rfl
        rw [e9] at h9
        exact h9 hne2
      refine OOK.call [] rfl rfl rfl (by kernel_rfl) (args := [.slice (if c = at_ + 8 then some a else some (addN a ((at_ + 8) * 1))) l.length (c - (at_ + 8))]) (by show [Value.slice _ (at_ + 8 + l.length - (at_ + 8)) _] = _; rw [hlen9]; rfl) (f_cloneR g3 _ _ l hrow9 (by omega)) (by decide) rfl ?_
      rintro v_ g4 m_ hg4 ⟨rfl, A3, c3, rfl, hc3, hrow3⟩
      conv => whnf
      refine COK.quiet (by kernel_rfl) (by kernel_rfl) ?_
      conv => whnf
      refine QN.call _ [] rfl rfl rfl (by kernel_rfl) rfl (f_crc g4 A3 c3 l hrow3 (by omega)) (by decide) rfl (fun v g m _ h => h) ?_
      conv => whnf
      refine YN.sliceArr (b := b7) (q := 0) (N := 8) 4 8 rfl rfl rfl rfl (size := 1) rfl (.inr ⟨_, rfl, rfl⟩) (.inl ⟨rfl, rfl⟩) (by decide) (by decide) (by decide) ?_
      conv => whnf
      have hrow47 : Row g4 encB (some ⟨b7, 0 + 4 * 1, none⟩) [x4, x5, x6, x7] := by
        have h9 := row_sub (row_of (l := [x0, x1, x2, x3, x4, x5, x6, x7]) (rest := []) (el := 83) (hg4 _ _ (hg3 _ _ hb7))) 4 4
        exact h9
      refine QN.call _ [] rfl rfl rfl (by kernel_rfl) rfl (f_number g4 (some ⟨b7, 0 + 4 * 1, none⟩) 4 [x4, x5, x6, x7] hrow47 (by simp)) (by decide) rfl (fun v g m _ h => h) ?_
      conv => whnf
      have hsum : [x4, x5, x6, x7].foldl numStep 0 = crcF l := by
        have h1 := hhead.1
        unfold headL at h1
        simp only [List.cons.injEq, and_true] at h1
        obtain ⟨_, _, _, _, rfl, rfl, rfl, rfl⟩ := h1
        exact num_bytes (crcF l) (crcF_rng l).1 (crcF_rng l).2
      refine ⟨fun q2 => absurd q2 (by rw [hsum]; simp), fun _ => ?_⟩
      conv => whnf
      intro vb
      conv => whnf
      refine OOK.appendRow ⟨A3, c3, l⟩ 0 Rec.len rfl rfl rfl rfl (.inl ⟨_, rfl⟩) rfl (size := 1) (bytes := 24) rfl rfl rfl (by decide) rfl rfl hown
        (Src.own (i := 2) (q := 0) (cs := Rec.enc ⟨A3, c3, l⟩) (t := 22) (fr := (0, 0)) rfl rfl (fun j v hj => by simpa using hj)) (Rec.one _) (by omega) ?_
      intro db s' A' c' hO'
      conv => whnf
      have htk : ls.take (k + 1) = ls.take k ++ [l] := by rw [List.take_add_one, hl0]; rfl
      have hfl : (frameL l).length = 8 + l.length := by unfold frameL headL; simp; omega
      have hat' : Rd.at_ ls ⟨x.rs ++ [⟨A3, c3, l⟩], s', A', c'⟩ = at_ + (8 + l.length) := by
        show (framesL (ls.take (x.rs ++ [_]).length)).length = _
        rw [List.length_append, ← hk, show k + [(⟨A3, c3, l⟩ : Rec)].length = k + 1 from rfl, htk, hatk]
        unfold framesL
        rw [List.flatMap_append, List.length_append]
        simp [hfl]
      refine ⟨⟨x.rs ++ [⟨A3, c3, l⟩], s', A', c'⟩, [3], Sub.of (by decide) rfl ⟨rfl, ?_, ?_, trivial⟩, ⟨?_, ?_, hO', ?_⟩, ?_⟩
      · show Value.slice A' (x.rs.length + 1) c' = Value.slice A' (x.rs ++ [_]).length c'
        rw [List.length_append]; rfl
      · show Value.int .i64 _ = Value.int .i64 _
        rw [hat', i64_in (x := 8 + (l.length : Int)) (by omega) (by omega), i64_in (by omega) (by omega)]
        exact int_eq (by omega)
      · show (x.rs ++ [_]).map Rec.l = ls.take (x.rs ++ [_]).length
        rw [List.map_append, hmap, List.length_append, ← hk, show k + [(⟨A3, c3, l⟩ : Rec)].length = k + 1 from rfl, htk]
        rfl
      · show (x.rs ++ [_]).length ≤ _
        rw [List.length_append, ← hk]
        exact hkl
      · intro r hr
        rcases List.mem_append.1 hr with hr | hr
        · exact (hrows r hr).mono ((hg2.trans hg3).trans hg4)
        · obtain rfl := List.mem_singleton.1 hr
          exact hrow3
      · show ls.length - (x.rs ++ [_]).length < ls.length - x.rs.length
        rw [List.length_append, ← hk]
        show ls.length - (k + 1) < ls.length - k
        omega
    · have hke : k = ls.length := by omega
      have hRt : R = tail := by rw [hR, hke, List.drop_length]; rfl
      have hsh : N ≤ 65536 ∧ (R.length : Int) - 8 < N := by
        rcases ht with h | ⟨h1, h2, h3⟩
        · rw [hRt] at hR8; omega
        · have e4 : tail.take 4 = [x0, x1, x2, x3] := by rw [← hRt, hRx]; rfl
          rw [e4, ← hN] at h1 h2 h3
          exact ⟨h2, by rw [hRt]; exact h3⟩
      refine ⟨fun q2 => absurd (of_decide_eq_true q2) (by omega), fun _ => ?_⟩
      conv => whnf
      rw [hw1, i64_in (x := (R.length : Int) - 8) (by omega) (by omega)]
      refine ⟨fun _ => ?_, fun q2 => absurd (of_decide_eq_false q2) (by omega)⟩
      conv => whnf
      exact .mk ⟨_, [0], _, rfl, by decide, rfl, trivial, hdone g3 (hg2.trans hg3) hke⟩
  · have hke : k = ls.length := by
      rcases Nat.lt_or_ge k ls.length with h | h
      · obtain ⟨l, R2, _, h1, _⟩ := hsplit h
        have h2 := of_decide_eq_false q
        rw [h1] at h2
        unfold frameL headL at h2
        simp at h2
        omega
      · omega
    conv => whnf
    exact .mk ⟨_, [0], _, rfl, by decide, rfl, trivial, hdone g1 (.refl _) hke⟩
end Go.Proofs.Ytkkefknmahnjnaa
