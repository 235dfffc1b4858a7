/- WholeStores: the header of a frame, and the number that four bytes stand for. -/
import Derived.Test.YtkkefknmahnjnaaSBytes
set_option linter.unusedVariables false
set_option linter.unusedSimpArgs false
set_option maxRecDepth 100000
namespace Go.Proofs.Ytkkefknmahnjnaa
open Go Go.SX

/-- Byte i of four, the most significant one first. -/
def byteOf (x : Int) (i : Nat) : UInt8 := UInt8.ofNat (x / 2 ^ (24 - 8 * i) % 256).toNat
def hl (size sum : Int) : Nat → List UInt8
  | 0 => [0, 0, 0, 0, 0, 0, 0, 0]
  | i + 1 => ((hl size sum i).set i (byteOf size i)).set (4 + i) (byteOf sum i)
def headL (size sum : Int) : List UInt8 := [byteOf size 0, byteOf size 1, byteOf size 2, byteOf size 3, byteOf sum 0, byteOf sum 1, byteOf sum 2, byteOf sum 3]
theorem byte_eq (x : Int) (i : Nat) (hx : 0 ≤ x) : IntKind.u8.wrap (x.fdiv (2 ^ min (((24 - 8 * i : Nat) : Int)).toNat IntKind.i64.bits)) = ((byteOf x i).toNat : Int) := by
  rw [Int.toNat_natCast, show IntKind.i64.bits = 64 from rfl, Nat.min_eq_left (by omega), Int.fdiv_eq_ediv_of_nonneg _ (Int.le_of_lt (Int.pow_pos (by decide))), IntKind.wrap_u8]
  unfold byteOf
  obtain ⟨y, hy⟩ : ∃ y, y = x / 2 ^ (24 - 8 * i) := ⟨_, rfl⟩
  rw [← hy]
  have : (UInt8.ofNat (y % 256).toNat).toNat = (y % 256).toNat := by
    rw [UInt8.toNat_ofNat']
    omega
  rw [this]
  omega
theorem f_header (g : GH) (size sum : Int) (h0 : 0 ≤ size) (h1 : size < 4294967296) (h2 : 0 ≤ sum) (h3 : sum < 4294967296) :
    Tri Try.prog 53 [.int .i64 size, .int .i64 sum] g [] fun v g' m' => v = .agg ((headL size sum).flatMap encB).toArray ∧ m' = [] := by
  refine Tri.vc [.val (.int .i64 size), .val (.int .i64 sum)] Try.func53 rfl Try.ntmps53 rfl rfl ?_
  conv => whnf
  intro b1
  conv => whnf
  intro b2
  conv => whnf
  refine COK.loop (α := Nat) (fun i => [(0, .val (.int .i64 size)), (1, .val (.int .i64 sum)), (4, .own 0 0), (5, .own 1 0), (7, .val (.int .i64 i))]) (fun i => [⟨b1, .cells ((hl 0 0 0).flatMap encB) 83 (0, 0)⟩, ⟨b2, .cells ((hl size sum i).flatMap encB ++ []) 83 (0, 0)⟩]) (fun i _ => i ≤ 4) (fun i => 4 - i) 0 [0, 1] (Sub.of (by decide) rfl ⟨rfl, rfl, rfl, rfl, rfl, trivial⟩) (Nat.zero_le _) ?_
  intro i g' hg hi
  refine vcC_ok _ _ _ _ _ ?_
  conv => whnf
  refine ⟨fun q => ?_, fun q => ?_⟩
  · have hi4 : i < 4 := by have := of_decide_eq_true q; omega
    have hw : IntKind.i64.wrap (24 - IntKind.i64.wrap (8 * (i : Int))) = ((24 - 8 * i : Nat) : Int) := by
      rw [i64_in (x := 8 * (i : Int)) (by omega) (by omega), i64_in (by omega) (by omega)]; omega
    have hll : (hl size sum i).length = 8 := by
      clear hi q hw hi4
      induction i with
      | zero => rfl
      | succ i ih => simp [hl, ih]
    conv => whnf
    rw [hw]
    refine ⟨Int.natCast_nonneg _, ?_⟩
    conv => whnf
    rw [byte_eq size i h0]
    refine ⟨⟨by omega, by omega⟩, ?_⟩
    conv => whnf
    obtain ⟨x, hx⟩ : ∃ x, (hl size sum i)[i]? = some x := ⟨_, List.getElem?_eq_getElem (by omega)⟩
    refine OOK.storeElt encB_len 1 (byteOf size i) (k := i) (j := 0) (rest := []) rfl rfl rfl rfl rfl rfl rfl hx rfl (Nat.le_refl _) ?_
    conv => whnf
    rw [hw]
    refine ⟨Int.natCast_nonneg _, ?_⟩
    conv => whnf
    rw [byte_eq sum i h2, show IntKind.i64.wrap (4 + (i : Int)) = ((4 + i : Nat) : Int) by rw [i64_in (by omega) (by omega)]; omega]
    refine ⟨⟨by omega, by omega⟩, ?_⟩
    conv => whnf
    obtain ⟨y, hy⟩ : ∃ y, ((hl size sum i).set i (byteOf size i))[4 + i]? = some y := ⟨_, List.getElem?_eq_getElem (by simp; omega)⟩
    refine OOK.storeElt encB_len 1 (byteOf sum i) (k := 4 + i) (j := 0) (rest := []) rfl rfl rfl rfl rfl rfl rfl hy rfl (Nat.le_refl _) ?_
    conv => whnf
    exact ⟨i + 1, [0, 1], Sub.of (by decide) rfl ⟨rfl, rfl, rfl, rfl, int_eq (i64_in (by omega) (by omega)), trivial⟩, hi4, by omega⟩
  · have hi4 : i = 4 := by have := of_decide_eq_false q; omega
    subst hi4
    conv => whnf
    exact .mk ⟨_, [], _, rfl, by decide, rfl, trivial, rfl, rfl⟩
def numStep (n : Int) (b : UInt8) : Int := IntKind.i64.wrap ↑(BitVec.ofInt IntKind.i64.bits (IntKind.i64.wrap (n * 2 ^ min (Int.toNat 8) IntKind.i64.bits)) ||| BitVec.ofInt IntKind.i64.bits (IntKind.i64.wrap (b.toNat : Int))).toNat
theorem numStep_eq (n : Int) (b : UInt8) (h0 : 0 ≤ n) (h1 : n < 1099511627776) : numStep n b = n * 256 + b.toNat := by
  have hb : b.toNat < 256 := b.toNat_lt
  unfold numStep
  rw [show (2 : Int) ^ min (Int.toNat 8) IntKind.i64.bits = 256 from rfl, i64_in (x := n * 256) (by omega) (by omega), i64_in (x := (b.toNat : Int)) (by omega) (by omega)]
  obtain ⟨k, rfl⟩ : ∃ k : Nat, n = k := ⟨n.toNat, by omega⟩
  have e1 : (BitVec.ofInt IntKind.i64.bits ((k : Int) * 256)).toNat = k * 256 := by
    rw [show (k : Int) * 256 = ((k * 256 : Nat) : Int) by simp, BitVec.ofInt_natCast, BitVec.toNat_ofNat]
    exact Nat.mod_eq_of_lt (by show _ < 18446744073709551616; omega)
  have e2 : (BitVec.ofInt IntKind.i64.bits (b.toNat : Int)).toNat = b.toNat := by
    rw [BitVec.ofInt_natCast, BitVec.toNat_ofNat]
    exact Nat.mod_eq_of_lt (by show _ < 18446744073709551616; omega)
  rw [BitVec.toNat_or, e1, e2]
  have e3 := Nat.shiftLeft_add_eq_or_of_lt (i := 8) (b := b.toNat) (by simpa using hb) k
  rw [Nat.shiftLeft_eq, show 2 ^ 8 = 256 from rfl] at e3
  rw [← e3, i64_in (by omega) (by omega)]
  omega
theorem byteOf_nat (x : Int) (i : Nat) : ((byteOf x i).toNat : Int) = x / 2 ^ (24 - 8 * i) % 256 := by
  unfold byteOf
  obtain ⟨y, hy⟩ : ∃ y, y = x / 2 ^ (24 - 8 * i) := ⟨_, rfl⟩
  rw [← hy, UInt8.toNat_ofNat']
  omega
theorem num_bytes (x : Int) (h0 : 0 ≤ x) (h1 : x < 4294967296) : [byteOf x 0, byteOf x 1, byteOf x 2, byteOf x 3].foldl numStep 0 = x := by
  have b0 := byteOf_nat x 0
  have b1 := byteOf_nat x 1
  have b2 := byteOf_nat x 2
  have b3 := byteOf_nat x 3
  rw [show (2 : Int) ^ (24 - 8 * 0) = 16777216 by decide] at b0
  rw [show (2 : Int) ^ (24 - 8 * 1) = 65536 by decide] at b1
  rw [show (2 : Int) ^ (24 - 8 * 2) = 256 by decide] at b2
  rw [show (2 : Int) ^ (24 - 8 * 3) = 1 by decide] at b3
  simp only [List.foldl_cons, List.foldl_nil]
  have r0 : (byteOf x 0).toNat < 256 := (byteOf x 0).toNat_lt
  have r1 : (byteOf x 1).toNat < 256 := (byteOf x 1).toNat_lt
  have r2 : (byteOf x 2).toNat < 256 := (byteOf x 2).toNat_lt
  rw [numStep_eq 0 (byteOf x 0) (by omega) (by omega)]
  rw [numStep_eq _ (byteOf x 1) (by omega) (by omega)]
  rw [numStep_eq _ (byteOf x 2) (by omega) (by omega)]
  rw [numStep_eq _ (byteOf x 3) (by omega) (by omega)]
  omega
theorem f_number (g : GH) (A : Option Addr) (c : Nat) (l : List UInt8) (hA : Row g encB A l) (hl : l.length ≤ 100000) :
    Tri Try.prog 61 [.slice A l.length c] g [] fun v g' m' => v = .int .i64 (l.foldl numStep 0) ∧ m' = [] := by
  refine Tri.vc [.val (.slice A l.length c)] Try.func61 rfl Try.ntmps61 rfl rfl ?_
  conv => whnf
  refine COK.loop (α := Nat × Int) (fun x => [(6, .val (.slice A l.length c)), (7, .val (.int .i64 l.length)), (8, .val (.int .i64 x.1)), (3, .val (.int .i64 x.2))]) (fun _ => []) (fun x _ => x.1 ≤ l.length ∧ (l.drop x.1).foldl numStep x.2 = l.foldl numStep 0) (fun x => l.length - x.1) (0, 0) [] (Sub.of (by decide) rfl ⟨rfl, rfl, rfl, rfl, trivial⟩) ⟨Nat.zero_le _, rfl⟩ ?_
  rintro x g' hg ⟨hi, hfold⟩
  refine vcC_ok _ _ _ _ _ ?_
  by_cases hlt : x.1 < l.length
  · obtain ⟨y, hy⟩ : ∃ y, l[x.1]? = some y := ⟨_, List.getElem?_eq_getElem hlt⟩
    obtain ⟨a, rfl, hr⟩ := (hA.mono hg).at_ encB_len hy
    conv => whnf
    refine ⟨fun _ => ?_, fun h1 => absurd h1 (by simp [hlt])⟩
    conv => whnf
    refine ⟨⟨by omega, by omega⟩, ?_⟩
    conv => whnf
    refine OOK.yn (YN.load rfl rfl rfl (v := .int .u8 (y.toNat : Int)) (by have := hr 0 _ rfl; rw [addN_add, Nat.add_zero] at this; exact this) ?_)
    conv => whnf
    refine ⟨(x.1 + 1, numStep x.2 y), [], Sub.of (by decide) rfl ⟨rfl, rfl, int_eq (i64_in (by omega) (by omega)), rfl, trivial⟩, ⟨hlt, ?_⟩, by show l.length - (x.1 + 1) < l.length - x.1; omega⟩
    rw [← hfold]
    obtain ⟨h3, h4⟩ := List.getElem?_eq_some_iff.1 hy
    rw [List.drop_eq_getElem_cons h3, h4]
    rfl
  · conv => whnf
    refine ⟨fun h1 => absurd h1 (by simp [hlt]), fun _ => ?_⟩
    have hd : l.drop x.1 = [] := List.drop_eq_nil_of_le (by omega)
    rw [hd] at hfold
    conv => whnf
    exact .mk ⟨_, [], _, rfl, by decide, rfl, trivial, int_eq hfold, rfl⟩
end Go.Proofs.Ytkkefknmahnjnaa
