/- The generator of numbers: each call gives some number below its bound. -/
import Derived.Test.YthkfnmmbjoadbaaGreatDoorPxEq
import Derived.Test.YthkfnmmbjoadbaaGreatDoorProg
set_option linter.unusedVariables false
set_option maxRecDepth 100000
namespace Go.Proofs.YthkfnmmbjoadbaaGreatDoor
open Go Go.SX

/-- A generator: its bytes, how many are used, and what else it holds. -/
structure Hd where
  A : Option Addr
  n : Nat
  c : Nat
  at_ : Int
  s : Int
  left : Int
  fv : Value
  vars : Int
  far : Bool
def Hd.cells (h : Hd) : List Value := [.slice h.A h.n h.c, .int .i64 h.at_, .int .u64 h.s, .int .i64 h.left, h.fv, .int .i64 h.vars, .bool h.far]
def BytesG (g : GH) (A : Option Addr) (n : Nat) : Prop := ∀ i, i < n → ∃ a, A = some a ∧ ∃ x : Int, 0 ≤ x ∧ x ≤ 255 ∧ cellG g (addN a i) = some (.int .u8 x)
theorem BytesG.mono {g g' A n} (h : BytesG g A n) (k : g.le g') : BytesG g' A n := fun i hi =>
  let ⟨a, h1, x, h2, h3, h4⟩ := h i hi
  ⟨a, h1, x, h2, h3, cellG_mono k h4⟩
structure Hd.ok (g : GH) (h : Hd) : Prop where
  at0 : 0 ≤ h.at_
  at1 : h.at_ ≤ h.n
  n : h.n ≤ 4096
  bytes : BytesG g h.A h.n
theorem Hd.ok.mono {g g' : GH} {h : Hd} (k : g.le g') (o : h.ok g) : h.ok g' := ⟨o.at0, o.at1, o.n, o.bytes.mono k⟩
def Hd.slot (h : Hd) (b : Nat) : Slot := ⟨b, .cells h.cells 54 (0, 0)⟩
/-- The same but for what a draw turns. -/
def Hd.next (h h' : Hd) : Prop := h'.A = h.A ∧ h'.n = h.n ∧ h'.c = h.c ∧ h'.left = h.left ∧ h'.fv = h.fv ∧ h'.vars = h.vars ∧ h'.far = h.far
theorem shr33 (x : Int) (h0 : 0 ≤ x) (h1 : x < 18446744073709551616) : 0 ≤ x.fdiv (2 ^ 33) ∧ x.fdiv (2 ^ 33) ≤ 2147483647 := by
  rw [Int.fdiv_eq_ediv_of_nonneg _ (by decide)]
  omega
theorem u64_rng (x : Int) : 0 ≤ IntKind.u64.wrap x ∧ IntKind.u64.wrap x < 18446744073709551616 := by
  have : IntKind.u64.wrap x = x % 18446744073709551616 := by simp [IntKind.wrap, IntKind.bits, IntKind.signed]
  rw [this]; omega
theorem tmod_rng (x k : Int) (h0 : 0 ≤ x) (hk : 0 < k) : 0 ≤ x.tmod k ∧ x.tmod k < k := by
  rw [Int.tmod_eq_emod_of_nonneg h0]
  exact ⟨Int.emod_nonneg _ (by omega), Int.emod_lt_of_pos _ hk⟩

theorem hand_n (g : GH) (b : Nat) (h : Hd) (k : Int) (hh : h.ok g) (hk : 1 ≤ k) (hk2 : k ≤ 2147483648) :
    Tri Tryz.prog 6 [.pointer (some ⟨b, 0, none⟩), .int .i64 k] g [h.slot b] fun v g' m' => ∃ (r : Int) (h' : Hd), v = .int .i64 r ∧ 0 ≤ r ∧ r < k ∧ h.next h' ∧ h'.ok g' ∧ m' = [h'.slot b] := by
  obtain ⟨A, n, c, at_, s, left, fv, vars, far⟩ := h
  obtain ⟨h1, h2, h3, h4⟩ := hh
  simp only at h1 h2 h3 h4
  have hkn : k ≠ 0 := by omega
  have fin : ∀ (g' : GH) (x : Int) (at' s' : Int) (b : Nat), g.le g' → 0 ≤ x → 0 ≤ at' → at' ≤ n → ∃ (r : Int) (h' : Hd), Value.int .i64 (x.tmod k) = .int .i64 r ∧ 0 ≤ r ∧ r < k ∧ Hd.next ⟨A, n, c, at_, s, left, fv, vars, far⟩ h' ∧ h'.ok g' ∧
      ([⟨b, .cells [.slice A n c, .int .i64 at', .int .u64 s', .int .i64 left, fv, .int .i64 vars, .bool far] 54 (0, 0)⟩] : Mem) = [h'.slot b] := fun g' x at' s' b hg hx ha hb =>
    ⟨x.tmod k, ⟨A, n, c, at', s', left, fv, vars, far⟩, rfl, (tmod_rng x k hx (by omega)).1, (tmod_rng x k hx (by omega)).2, ⟨rfl, rfl, rfl, rfl, rfl, rfl, rfl⟩, ⟨ha, hb, h3, h4.mono hg⟩, rfl⟩
  obtain ⟨z, hz⟩ : ∃ z, z = (IntKind.u64.wrap (IntKind.u64.wrap (s * 6364136223846793005) + 1442695040888963407)).fdiv (2 ^ min (Int.toNat 33) IntKind.u64.bits) := ⟨_, rfl⟩
  have hz1 : 0 ≤ z ∧ z ≤ 2147483647 := by
    rw [hz]
    exact shr33 _ (u64_rng _).1 (u64_rng _).2
  have hz2 : IntKind.i64.wrap z = z := i64_in (by omega) (by omega)
  refine Tri.vc [.own 0 0, .val (.int .i64 k)] Tryz.func6 rfl Tryz.ntmps6 rfl rfl ?_
  conv => whnf
  refine COK.quiet (by kernel_rfl) (by kernel_rfl) ?_
  conv => whnf
  refine ⟨fun q1 => ?_, fun q1 => ?_⟩
  · have q1' : at_ < n := of_decide_eq_true q1
    obtain ⟨a, rfl, x, hx1, hx2, hx3⟩ := h4 at_.toNat (by omega)
    have hx4 : IntKind.i64.wrap x = x := i64_in (by omega) (by omega)
    conv => whnf
    refine ⟨fun q2 => ?_, fun q2 => ?_⟩
    · conv => whnf
      refine COK.quiet (by kernel_rfl) (by kernel_rfl) ?_
      conv => whnf
      refine ⟨⟨h1, q1'⟩, ?_⟩
      conv => whnf
      refine YN.load rfl rfl rfl (v := .int .u8 x) (by rw [← hx3]; exact congrArg _ (congrArg _ (Nat.mul_one _))) ?_
      conv => whnf
      refine ⟨hkn, ?_⟩
      conv => whnf
      refine .mk ⟨_, [0], _, rfl, by decide, rfl, ⟨rfl, trivial⟩, ?_⟩
      have := fin g (IntKind.i64.wrap x) (IntKind.i64.wrap (at_ + 1)) (IntKind.u64.wrap (IntKind.u64.wrap (s * 6364136223846793005) + 1442695040888963407)) b (.refl _) (by omega) (by rw [i64_in (by omega) (by omega)]; omega) (by rw [i64_in (by omega) (by omega)]; omega)
      exact this
    · conv => whnf
      refine COK.quiet (by kernel_rfl) (by kernel_rfl) ?_
      conv => whnf
      refine ⟨⟨h1, q1'⟩, ?_⟩
      conv => whnf
      refine YN.load rfl rfl rfl (v := .int .u8 x) (by rw [← hx3]; exact congrArg _ (congrArg _ (Nat.mul_one _))) ?_
      conv => whnf
      refine ⟨hkn, ?_⟩
      conv => whnf
      refine .mk ⟨_, [0], _, rfl, by decide, rfl, ⟨rfl, trivial⟩, ?_⟩
      have := fin g (IntKind.i64.wrap (IntKind.i64.wrap z + IntKind.i64.wrap x)) (IntKind.i64.wrap (at_ + 1)) (IntKind.u64.wrap (IntKind.u64.wrap (s * 6364136223846793005) + 1442695040888963407)) b (.refl _) (by rw [i64_in (by omega) (by omega)]; omega) (by rw [i64_in (by omega) (by omega)]; omega) (by rw [i64_in (by omega) (by omega)]; omega)
      rw [hz] at this
      exact this
  · conv => whnf
    refine ⟨hkn, ?_⟩
    conv => whnf
    refine .mk ⟨_, [0], _, rfl, by decide, rfl, ⟨rfl, trivial⟩, ?_⟩
    have := fin g (IntKind.i64.wrap z) at_ (IntKind.u64.wrap (IntKind.u64.wrap (s * 6364136223846793005) + 1442695040888963407)) b (.refl _) (by omega) h1 h2
    rw [hz] at this
    exact this

theorem hand_new (g : GH) (A : Option Addr) (n c : Nat) (hn : n ≤ 4096) (hb : BytesG g A n) :
    Tri Tryz.prog 4 [.slice A n c] g [] fun v g' m' => ∃ (b : Nat) (s : Int), v = .pointer (some ⟨b, 0, none⟩) ∧ m' = [(⟨A, n, c, 0, s, 260, .slice none 0 0, 0, false⟩ : Hd).slot b] := by
  refine Tri.vc [.val (.slice A n c)] Tryz.func4 rfl Tryz.ntmps4 rfl rfl ?_
  conv => whnf
  intro b
  conv => whnf
  refine COK.loop (α := Nat × Int) (fun x => [(0, .val (.slice A n c)), (3, .own 0 0), (9, .val (.slice A n c)), (10, .val (.int .i64 n)), (11, .val (.int .i64 x.1))]) (fun x => [(⟨A, n, c, 0, x.2, 260, .slice none 0 0, 0, false⟩ : Hd).slot b]) (fun x _ => x.1 ≤ n) (fun x => n - x.1) (0, 0) [0] (Sub.of (by decide) rfl ⟨rfl, rfl, rfl, rfl, rfl, trivial⟩) (Nat.zero_le _) ?_
  rintro ⟨i, s⟩ g' hg hi
  simp only at hi
  refine vcC_ok _ _ _ _ _ ?_
  by_cases hlt : i < n
  · obtain ⟨a, rfl, x, hx1, hx2, hx3⟩ := hb i hlt
    conv => whnf
    refine ⟨fun _ => ?_, fun q => absurd q (by simp [hlt])⟩
    conv => whnf
    refine ⟨⟨by omega, by omega⟩, ?_⟩
    conv => whnf
    refine OOK.yn (YN.load rfl rfl rfl (v := .int .u8 x) (cellG_mono hg (by rw [← hx3]; exact congrArg _ (congrArg _ (Nat.mul_one _)))) ?_)
    conv => whnf
    exact ⟨(i + 1, IntKind.u64.wrap (IntKind.u64.wrap (s * 31) + IntKind.u64.wrap x)), [0], Sub.of (by decide) rfl ⟨rfl, rfl, rfl, rfl, int_eq (i64_in (by omega) (by omega)), trivial⟩, by simp only; omega, by simp only; omega⟩
  · conv => whnf
    refine ⟨fun q => absurd q (by simp [hlt]), fun _ => ?_⟩
    conv => whnf
    exact .mk ⟨_, [0], _, rfl, by decide, rfl, trivial, b, s, rfl, rfl⟩
end Go.Proofs.YthkfnmmbjoadbaaGreatDoor
