/- WholeTexts: the canonical text. -/
import Derived.Test.YthkfnmmbjoadbaaGreatDoorYm2
import Derived.Laws.Runes
import Derived.Lib.Builder
import Derived.Lib.MakeNoZero
import Derived.Lib.UnsafeStr
import Derived.Shelf.Strconv.Itoa3
import Derived.Test.YthkfnmmbjoadbaaGreatDoorProg
import Derived.Lib.ItoaLen
set_option linter.unusedVariables false
set_option linter.unusedSimpArgs false
set_option maxRecDepth 100000
namespace Go.Proofs.YthkfnmmbjoadbaaGreatDoor
open Go Go.SX

def dig (k : Nat) : UInt8 := if k < 10 then UInt8.ofNat (48 + k) else UInt8.ofNat (87 + k)
def hexT (c : UInt8) : List UInt8 := [92, 120, dig (c.toNat / 16), dig (c.toNat % 16)]
def byteT (c : UInt8) : List UInt8 := if c.toNat = 34 then [92, 34] else if c.toNat = 92 then [92, 92] else if c.toNat = 10 then [92, 110] else if c.toNat = 9 then [92, 116] else if c.toNat < 32 ∨ 126 < c.toNat then hexT c else [c]
def quoteT (s : List UInt8) : List UInt8 := [34] ++ s.flatMap byteT ++ [34]
theorem u8_in {x : Int} (h1 : 0 ≤ x) (h2 : x ≤ 255) : IntKind.u8.wrap x = x := by
  rw [IntKind.wrap_u8]
  omega
theorem and15 : ∀ n : Fin 256, IntKind.u8.wrap ↑(BitVec.ofInt IntKind.u8.bits (n.val : Int) &&& BitVec.ofInt IntKind.u8.bits 15).toNat = ((n.val % 16 : Nat) : Int) := by decide +kernel
theorem digs : ∀ n : Fin 16, (⟨#[48, 49, 50, 51, 52, 53, 54, 55, 56, 57, 97, 98, 99, 100, 101, 102]⟩ : ByteArray).extract n.val (n.val + 1) = str [dig n.val] := by decide +kernel
theorem f_hex (g : GH) (c : UInt8) : Tri Tryz.prog 71 [.int .u8 (c.toNat : Int)] g [] fun v g' m' => v = .string (str (hexT c)) ∧ m' = [] := by
  refine Tri.vc [.val (.int .u8 (c.toNat : Int))] Tryz.func71 rfl Tryz.ntmps71 rfl rfl ?_
  conv => whnf
  obtain ⟨q, hq, hq16⟩ : ∃ q : Nat, q = c.toNat / 16 ∧ q < 16 := ⟨_, rfl, by have := c.toNat_lt; omega⟩
  obtain ⟨r, hr, hr16⟩ : ∃ r : Nat, r = c.toNat % 16 ∧ r < 16 := ⟨_, rfl, by omega⟩
  have e1 : (c.toNat : Int).fdiv (2 ^ min (Int.toNat 4) IntKind.u8.bits) = (q : Int) := by
    rw [show min (Int.toNat 4) IntKind.u8.bits = 4 from rfl, Int.fdiv_eq_ediv_of_nonneg _ (by decide)]
    omega
  have e2 : IntKind.u8.wrap ↑(BitVec.ofInt IntKind.u8.bits (c.toNat : Int) &&& BitVec.ofInt IntKind.u8.bits 15).toNat = (r : Int) := by
    have := and15 ⟨c.toNat, c.toNat_lt⟩
    rw [hr]
    exact this
  have e3 : IntKind.u8.wrap ((q : Int) + 1) = ((q + 1 : Nat) : Int) := by rw [u8_in (by omega) (by omega)]; omega
  have e4 : IntKind.u8.wrap ((r : Int) + 1) = ((r + 1 : Nat) : Int) := by rw [u8_in (by omega) (by omega)]; omega
  have d1 : (⟨#[48, 49, 50, 51, 52, 53, 54, 55, 56, 57, 97, 98, 99, 100, 101, 102]⟩ : ByteArray).extract (q : Int).toNat ((q + 1 : Nat) : Int).toNat = str [dig q] := digs ⟨q, hq16⟩
  have d2 : (⟨#[48, 49, 50, 51, 52, 53, 54, 55, 56, 57, 97, 98, 99, 100, 101, 102]⟩ : ByteArray).extract (r : Int).toNat ((r + 1 : Nat) : Int).toNat = str [dig r] := digs ⟨r, hr16⟩
  refine COK.quiet (by kernel_rfl) (by kernel_rfl) ?_
  conv => whnf
  rw [e1, e3]
  refine ⟨⟨⟨by omega, by show ((q + 1 : Nat) : Int) ≤ 16; omega⟩, by omega, by omega⟩, ?_⟩
  rw [d1]
  conv => whnf
  rw [show (⟨#[92, 120]⟩ : ByteArray) = str [92, 120] from rfl, str_app]
  refine ⟨by rw [str_size, str_size]; show 2 + 1 ≤ _; omega, ?_⟩
  conv => whnf
  rw [e2, e4]
  refine ⟨⟨⟨by omega, by show ((r + 1 : Nat) : Int) ≤ 16; omega⟩, by omega, by omega⟩, ?_⟩
  rw [d2]
  conv => whnf
  rw [str_app]
  refine ⟨by rw [str_size, str_size]; show 3 + 1 ≤ _; omega, ?_⟩
  conv => whnf
  refine .mk ⟨_, [], _, rfl, by decide, rfl, trivial, ?_, rfl⟩
  show Value.string (str _) = _
  unfold hexT
  rw [← hq, ← hr]
  rfl
theorem wrap32 : ∀ n : Fin 256, IntKind.i32.wrap (n.val : Int) = (n.val : Int) := by decide +kernel
theorem enc_ascii : ∀ n : Fin 128, Utf8.encode (n.val : Int) = str [UInt8.ofNat n.val] := by decide +kernel
theorem OOK.runeStr {P : Program} {n : Cfg} {o : Oper} {e : Env} {m : Mem} {g : GH} {K : Env → Mem → GH → Prop} {s d : TypeId} {x : Operand} {k : IntKind} {c : UInt8} (hop : o.op = .convert s d x) (hx : e.va m x = some (.int k (c.toNat : Int)))
    (hs : (P.underlying s).isSome = true) (hd : P.underlying d = some .string) (hc : c.toNat < 128) (h : putK n o.dst (.val (.string (str [c]))) e fun e => K e m g) : OOK P n o e m g K := by
  refine OOK.val rfl (fun a w ha hw => ?_) h
  have h1 : (Go.convert s d (.int k (c.toNat : Int))).run P w = .ok (.string (str [c])) w := by
    rw [run_convert_int_string w s d k _ hs hd]
    have := enc_ascii ⟨c.toNat, hc⟩
    simp only at this
    rw [this, UInt8.ofNat_toNat]
  simp only [execOp, hop, ha.va hx, Sem.run_bind, h1, Result.andThen_ok, Sem.run_pure]
theorem f_byte (g : GH) (c : UInt8) : Tri Tryz.prog 72 [.int .u8 (c.toNat : Int)] g [] fun v g' m' => v = .string (str (byteT c)) ∧ m' = [] := by
  have hlt := c.toNat_lt
  refine Tri.vc [.val (.int .u8 (c.toNat : Int))] Tryz.func72 rfl Tryz.ntmps72 rfl rfl ?_
  conv => whnf
  refine ⟨fun q => ?_, fun q1 => ?_⟩
  · have h1 : c.toNat = 34 := by have := eq_of_beq q; omega
    conv => whnf
    exact .mk ⟨_, [], _, rfl, by decide, rfl, trivial, by unfold byteT; rw [if_pos h1] <;> rfl, rfl⟩
  have h1 : ¬ c.toNat = 34 := by simp only [beq_eq_false_iff_ne] at q1; omega
  conv => whnf
  refine ⟨fun q => ?_, fun q2 => ?_⟩
  · have h2 : c.toNat = 92 := by have := eq_of_beq q; omega
    conv => whnf
    exact .mk ⟨_, [], _, rfl, by decide, rfl, trivial, by unfold byteT; rw [if_neg h1, if_pos h2] <;> rfl, rfl⟩
  have h2 : ¬ c.toNat = 92 := by simp only [beq_eq_false_iff_ne] at q2; omega
  conv => whnf
  refine ⟨fun q => ?_, fun q3 => ?_⟩
  · have h3 : c.toNat = 10 := by have := eq_of_beq q; omega
    conv => whnf
    exact .mk ⟨_, [], _, rfl, by decide, rfl, trivial, by unfold byteT; rw [if_neg h1, if_neg h2, if_pos h3] <;> rfl, rfl⟩
  have h3 : ¬ c.toNat = 10 := by simp only [beq_eq_false_iff_ne] at q3; omega
  conv => whnf
  refine ⟨fun q => ?_, fun q4 => ?_⟩
  · have h4 : c.toNat = 9 := by have := eq_of_beq q; omega
    conv => whnf
    exact .mk ⟨_, [], _, rfl, by decide, rfl, trivial, by unfold byteT; rw [if_neg h1, if_neg h2, if_neg h3, if_pos h4] <;> rfl, rfl⟩
  have h4 : ¬ c.toNat = 9 := by simp only [beq_eq_false_iff_ne] at q4; omega
  conv => whnf
  refine ⟨fun q5 => ?_, fun q5 => ?_⟩
  · have h5 : c.toNat < 32 ∨ 126 < c.toNat := .inl (by have := of_decide_eq_true q5; omega)
    conv => whnf
    refine OOK.call [] rfl rfl rfl (by kernel_rfl) rfl (f_hex g c) (by decide) rfl ?_
    rintro v_ g1 m_ hg1 ⟨rfl, rfl⟩
    conv => whnf
    exact .mk ⟨_, [], _, rfl, by decide, rfl, trivial, by unfold byteT; rw [if_neg h1, if_neg h2, if_neg h3, if_neg h4, if_pos h5] <;> rfl, rfl⟩
  conv => whnf
  refine ⟨fun q6 => ?_, fun q6 => ?_⟩
  · have h5 : c.toNat < 32 ∨ 126 < c.toNat := .inr (by have := of_decide_eq_true q6; omega)
    conv => whnf
    refine OOK.call [] rfl rfl rfl (by kernel_rfl) rfl (f_hex g c) (by decide) rfl ?_
    rintro v_ g1 m_ hg1 ⟨rfl, rfl⟩
    conv => whnf
    exact .mk ⟨_, [], _, rfl, by decide, rfl, trivial, by unfold byteT; rw [if_neg h1, if_neg h2, if_neg h3, if_neg h4, if_pos h5] <;> rfl, rfl⟩
  have h5 : ¬ (c.toNat < 32 ∨ 126 < c.toNat) := by
    have := of_decide_eq_false q5
    have := of_decide_eq_false q6
    omega
  conv => whnf
  have hw : IntKind.i32.wrap (c.toNat : Int) = (c.toNat : Int) := by
    have := wrap32 ⟨c.toNat, hlt⟩
    exact this
  rw [hw]
  refine OOK.runeStr rfl rfl rfl rfl (by omega) ?_
  conv => whnf
  exact .mk ⟨_, [], _, rfl, by decide, rfl, trivial, by unfold byteT; rw [if_neg h1, if_neg h2, if_neg h3, if_neg h4, if_neg h5] <;> rfl, rfl⟩
theorem byteAt_str {s : List UInt8} {i : Nat} {c : UInt8} (h : s[i]? = some c) : byteAt (str s) i = c.toNat := by
  simp [byteAt, str, h]
theorem byteT_len (c : UInt8) : (byteT c).length ≤ 4 := by
  unfold byteT hexT
  repeat (first | (split; · simp) | simp)
theorem bytes_len (s : List UInt8) : (s.flatMap byteT).length ≤ 4 * s.length := by
  induction s with
  | nil => simp
  | cons c r ih =>
    have := byteT_len c
    rw [List.flatMap_cons, List.length_append, List.length_cons]
    omega
theorem quote_len (s : List UInt8) : (quoteT s).length ≤ 4 * s.length + 2 := by
  have := bytes_len s
  unfold quoteT
  rw [List.length_append, List.length_append]
  simp only [List.length_cons, List.length_nil]
  omega
theorem f_quote (g : GH) (s : List UInt8) (hs : s.length ≤ 1000) : Tri Tryz.prog 46 [.string (str s)] g [] fun v g' m' => v = .string (str (quoteT s)) ∧ m' = [] := by
  refine Tri.vc [.val (.string (str s))] Tryz.func46 rfl Tryz.ntmps46 rfl rfl ?_
  conv => whnf
  refine COK.loop (α := Nat) (fun i => [(0, .val (.string (str s))), (3, .val (.string (str ([34] ++ (s.take i).flatMap byteT)))), (6, .val (.int .i64 s.length)), (7, .val (.int .i64 i))]) (fun _ => []) (fun i _ => i ≤ s.length) (fun i => s.length - i) 0 [] (Sub.of (by decide) rfl ⟨rfl, rfl, int_eq (by rw [str_size]), rfl, trivial⟩) (Nat.zero_le _) ?_
  intro i g1 hg1 hi
  have hbl := bytes_len (s.take i)
  rw [List.length_take] at hbl
  by_cases hlt : i < s.length
  · obtain ⟨c, hc⟩ : ∃ c, s[i]? = some c := ⟨_, List.getElem?_eq_getElem hlt⟩
    refine vcC_ok _ _ _ _ _ ?_
    conv => whnf
    refine ⟨fun _ => ?_, fun q => absurd (of_decide_eq_false q) (by omega)⟩
    conv => whnf
    refine ⟨⟨by omega, by rw [str_size]; omega⟩, ?_⟩
    conv => whnf
    have hbc := byteAt_str hc
    rw [show ((i : Int)).toNat = i from rfl, hbc]
    refine OOK.call [] rfl rfl rfl (by kernel_rfl) rfl (f_byte g1 c) (by decide) rfl ?_
    rintro v_ g2 m_ hg2 ⟨rfl, rfl⟩
    conv => whnf
    rw [str_app]
    refine ⟨by rw [str_size, str_size]; have := byteT_len c; simp only [List.length_append, List.length_cons, List.length_nil]; omega, ?_⟩
    conv => whnf
    refine ⟨i + 1, [], Sub.of (by decide) rfl ⟨rfl, ?_, rfl, int_eq (i64_in (by omega) (by omega)), trivial⟩, hlt, by omega⟩
    have : s.take (i + 1) = s.take i ++ [c] := by rw [List.take_add_one, hc]; rfl
    rw [this, List.flatMap_append, ← List.append_assoc]
    simp only [List.flatMap_cons, List.flatMap_nil, List.append_nil]
    rfl
  · have hid : i = s.length := by omega
    subst hid
    refine vcC_ok _ _ _ _ _ ?_
    conv => whnf
    refine ⟨fun q => absurd (of_decide_eq_true q) (by omega), fun _ => ?_⟩
    conv => whnf
    rw [show (⟨#[34]⟩ : ByteArray) = str [34] from rfl, str_app]
    refine ⟨by rw [str_size, str_size]; simp only [List.length_append, List.length_cons, List.length_nil]; omega, ?_⟩
    conv => whnf
    exact .mk ⟨_, [], _, rfl, by decide, rfl, trivial, by rw [List.take_length]; rfl, rfl⟩
end Go.Proofs.YthkfnmmbjoadbaaGreatDoor
/- WholeTexts: strings.Join. -/
set_option linter.unusedVariables false
set_option linter.unusedSimpArgs false
set_option maxRecDepth 100000
namespace Go.Proofs.YthkfnmmbjoadbaaGreatDoor
open Go Go.SX

def bBox (b : Nat) (used : Bool) (A : Option Addr) (n c : Nat) : Slot := ⟨b, .cells [.pointer (if used then some ⟨b, 0, none⟩ else none), .slice A n c] 101 (0, 0)⟩
section
variable {P : Program} {n : Cfg} {o : Oper} {e : Env} {m : Mem} {g : GH} {K : Env → Mem → GH → Prop}
theorem OOK.toUnsafe {s d t t' : TypeId} {x : Operand} {j : TypeInfo} (i : Nat) {b q : Nat} {c : List Value} {fr : Nat × Nat} (hop : o.op = .convert s d x) (hx : e.va m x = some (.pointer (some ⟨b, q, none⟩)))
    (hs : P.underlying s = some (.pointer t)) (hd : P.underlying d = some .unsafePointer) (ht : P.info? t = some j) (hj : j.size ≠ 0) (hm : m[i]? = some ⟨b, .cells c t' fr⟩) (hq : q < c.length)
    (h : putK n o.dst (.val (.pointer (some ⟨b, q, none⟩))) e fun e => K e m g) : OOK P n o e m g K := by
  refine OOK.val rfl (fun a w ha hw => ?_) h
  have hb := hw.own _ (List.mem_of_getElem? hm) _ rfl
  have hsh : w.shape? b = some (t', c.length) := by simp [World.shape?, hb]
  have h1 := Lib.run_to_unsafe (P := P) w (src := s) (dst := d) ⟨b, q, none⟩ hs hd ht hj hsh hq
  simp only [execOp, hop, ha.va hx, Sem.run_bind, h1, Result.andThen_ok, Sem.run_pure]
theorem OOK.fromUnsafe {s d u t' : TypeId} {x : Operand} {j : TypeInfo} (i : Nat) {b q : Nat} {c : List Value} {fr : Nat × Nat} (hop : o.op = .convert s d x) (hx : e.va m x = some (.pointer (some ⟨b, q, none⟩)))
    (hs : P.underlying s = some .unsafePointer) (hd : P.underlying d = some (.pointer u)) (hu : P.info? u = some j) (hm : m[i]? = some ⟨b, .cells c t' fr⟩) (hl : liesAt P P.depth t' (c.length / P.cellsOf t') q u 1 = true)
    (h : putK n o.dst (.val (.pointer (some ⟨b, q, none⟩))) e fun e => K e m g) : OOK P n o e m g K := by
  refine OOK.val rfl (fun a w ha hw => ?_) h
  have hb := hw.own _ (List.mem_of_getElem? hm) _ rfl
  have hsh : w.shape? b = some (t', c.length) := by simp [World.shape?, hb]
  have h1 := Lib.run_from_unsafe (P := P) w (src := s) (dst := d) ⟨b, q, none⟩ hs hd hu hsh hl
  simp only [execOp, hop, ha.va hx, Sem.run_bind, h1, Result.andThen_ok, Sem.run_pure]
theorem OOK.neqSame {tp te u : TypeId} {x y : Operand} {j : TypeInfo} {a : Addr} (hop : o.op = .binOp .neq tp x y u) (hx : e.va m x = some (.pointer (some a))) (hy : e.va m y = some (.pointer (some a)))
    (hp : P.underlying tp = some (.pointer te)) (hte : P.info? te = some j) (h : putK n o.dst (.val (.bool false)) e fun e => K e m g) : OOK P n o e m g K := by
  refine OOK.val rfl (fun ac w ha hw => ?_) h
  have h1 := Lib.run_neq_ptr_same (P := P) w a hp hte
  simp only [execOp, hop, ha.va hx, ha.va hy, Sem.run_bind, guard_ok (P := P) (a := .pointer (some a)) (b := .pointer (some a)) (by simp) (by simp) w, Result.andThen_ok, h1, Sem.run_pure]
theorem OOK.sliceData {t : TypeId} {x : Operand} {a : Addr} {k c : Nat} (hop : o.op = .call ⟨.builtin .unsafeSliceData, #[x], #[t]⟩) (hx : e.va m x = some (.slice (some a) k c)) (hc : c ≠ 0)
    (h : putK n o.dst (.val (.pointer (some a))) e fun e => K e m g) : OOK P n o e m g K := by
  refine OOK.val rfl (fun ac w ha hw => ?_) h
  have h1 := Lib.run_unsafeSliceData_row (P := P) w #[t] o.type a k c hc
  simp [execOp, hop, resolve, invoke, builtin, ha.va hx, h1]
theorem OOK.unsafeStr {t u el : TypeId} {x y : Operand} (i : Nat) {b : Nat} {l : List UInt8} {rest : List Value} (hop : o.op = .call ⟨.builtin .unsafeString, #[x, y], #[t, u]⟩) (hx : e.va m x = some (.pointer (some ⟨b, 0, none⟩))) (hy : e.va m y = some (.int .i64 l.length))
    (ht : P.underlying t = some (.pointer el)) (hc : P.cellsOf el = 1) (hm : m[i]? = some ⟨b, .cells (l.flatMap encB ++ rest) el (0, 0)⟩) (h0 : l ≠ []) (hl : l.length ≤ 9223372036854775807)
    (h : setF m i ⟨b, .dead⟩ fun m => snoc m ⟨b, .cells (l.flatMap encB ++ rest) el (0, l.length)⟩ 0 fun _ m => putK n o.dst (.val (.string (str l))) e fun e => K e m g) : OOK P n o e m g K := by
  have h' : putK n o.dst (.val (.string (str l))) e fun e => K e (m.set i ⟨b, .dead⟩ ++ [⟨b, .cells (l.flatMap encB ++ rest) el (0, l.length)⟩]) g := by
    unfold setF at h
    split at h
    · rename_i L hL
      obtain ⟨rfl, _⟩ := setM_eq _ _ _ _ hL
      simpa [snoc_eq] using h
    · exact h.elim
  refine ⟨fun ac w ha hw next Q hn hX => ?_⟩
  have hb := hw.own _ (List.mem_of_getElem? hm) _ rfl
  rw [show (Slot.mk b (.cells (l.flatMap encB ++ rest) el (0, 0))).b = b from rfl] at hb
  have hfl : (l.flatMap encB).length = l.length := by rw [flat_len encB_len, Nat.mul_one]
  have h1 := Lib.run_unsafeString_row (P := P) w t u o.type el ht hc b (l.flatMap encB ++ rest).length (by simp [World.shape?, hb]) l h0 (by rw [List.length_append, hfl]; omega) hl (fun j x hj => by
    have hjl := (List.getElem?_eq_some_iff.1 hj).1
    have e2 := flat_get encB_len l j 0 x (.int .u8 (x.toNat : Int)) hj rfl
    simp only [Nat.mul_one, Nat.add_zero] at e2
    rw [add_plain]
    simp only [World.cell?, hb, Nat.zero_add]
    rw [List.getElem?_toArray, List.getElem?_append_left (by rw [hfl]; exact hjl)]
    exact e2)
  have hrun : (execOp ac.eval o).run P w = .ok (.value (.string (str l))) (w.freeze ⟨b, 0, none⟩ l.length) := by
    simp [execOp, hop, resolve, invoke, builtin, ha.va hx, ha.va hy, h1, str]
  unfold Oper.wp
  rw [hrun]
  have hl0 : l.length ≠ 0 := by simpa using h0
  have hfz : w.freeze ⟨b, 0, none⟩ l.length = { w with heap := w.heap.modify b fun
      | .cells c elem (lo, hi) => .cells c elem (if lo == hi then (0, 0 + l.length) else (min lo 0, max hi (0 + l.length)))
      | o => o } := by unfold World.freeze; rw [if_neg hl0] <;> rfl
  obtain ⟨e', h5, h6⟩ := putK_ok h' (ha.ext ((Mem.ext_set (s' := ⟨b, .dead⟩) hm rfl).trans (Mem.ext_append _ [⟨b, .cells (l.flatMap encB ++ rest) el (0, l.length)⟩]))) (v := .string (str l)) rfl
  rw [hfz]
  refine hn _ _ e' _ g h5 (hw.moved hm rfl (o2 := .cells (l.flatMap encB ++ rest) el (0, l.length)) rfl ?_ fun y hy => ?_) ?_ h6
  · simp [Array.getElem?_modify, hb]
  · simp only [Array.getElem?_modify]
    rw [if_neg (by simpa using fun h => hy h.symm)]
  · refine ⟨rfl, rfl, rfl, by simp, .refl _, fun y hy hm' => ?_, fun _ _ _ => rfl, fun y hy hm' h => hm' (lives_moved hm rfl h)⟩
    have : y ≠ b := fun e => hm' (e ▸ Mem.mem_lives.2 ⟨_, List.mem_of_getElem? hm, rfl, _, rfl⟩)
    simp only [Array.getElem?_modify]
    rw [if_neg (by simpa using fun h => this h.symm)]
theorem OOK.noZero {fx : Operand} {xs : Array Operand} {ts : Array TypeId} {f : FuncId} {N : Nat} {el : TypeId}
    (hop : o.op = .call ⟨.value fx, xs, ts⟩) (hf : e.va m fx = some (.func (.func f) #[] #[])) (hxs : mapV (e.va m) xs.toList = some [.int .i64 N])
    (hrun : ∀ w, ∃ cs : Array Value, (callFunc f #[.int .i64 N]).run P w = .ok (.value (.slice (some ⟨w.heap.size, 0, none⟩) N cs.size)) (w.drew.drew.alloc (.cells cs el)) ∧ N ≤ cs.size)
    (hk : ∀ b rest, N ≤ rest.length → snoc m ⟨b, .cells rest el (0, 0)⟩ 0 fun _ m => putK n o.dst (.val (.slice (some ⟨b, 0, none⟩) N rest.length)) e fun e => K e m g) : OOK P n o e m g K := by
  refine ⟨fun a w ha hw next Q hn hX => ?_⟩
  obtain ⟨cs, hr, hN⟩ := hrun w
  have hxs' : xs.map a.eval = #[.int .i64 N] := by apply Array.toList_inj.1; simpa using mapV_ok (fun x v hx => ha.va hx) _ _ hxs
  have h0 : (execOp a.eval o).run P w = .ok (.value (.slice (some ⟨w.heap.size, 0, none⟩) N cs.size)) (w.drew.drew.alloc (.cells cs el)) := by
    simp only [execOp, hop, resolve, ha.va hf, Deferred.ofValue, Sem.run_bind, Sem.run_pure, Result.andThen_ok, invoke, hxs']
    simpa using hr
  unfold Oper.wp
  rw [h0]
  have hw1 : Has w.drew.drew g m := hw.drew rfl
  have h1 := hk w.heap.size cs.toList (by simpa using hN)
  rw [snoc_eq] at h1
  obtain ⟨e', h5, h6⟩ := putK_ok h1 (ha.ext (Mem.ext_append _ _)) (v := .slice (some ⟨w.heap.size, 0, none⟩) N cs.size) (by simp [SV.den])
  have hal := hw1.alloc (.cells cs.toList el (0, 0)) (.cells cs el (0, 0)) (by simp [SO.ob])
  refine hn _ _ e' _ g h5 hal ?_ h6
  have f1 : Fr w m g w.drew.drew m g := ⟨rfl, rfl, rfl, Nat.le_refl _, .refl _, fun y _ _ => rfl, fun _ _ _ => rfl, fun y _ hy h => hy h⟩
  exact f1.trans (Fr.alloc (w := w.drew.drew) (g := g) (m := m) (.cells cs.toList el (0, 0)) (.cells cs el (0, 0)))
end
theorem f_ccheck (g : GH) (b : Nat) (A : Option Addr) (n c : Nat) : Tri Tryz.prog 109 [.pointer (some ⟨b, 0, none⟩)] g [bBox b false A n c] fun v g' m' => v = .tuple #[] ∧ m' = [bBox b true A n c] := by
  refine Tri.vc [.own 0 0] Tryz.func109 rfl Tryz.ntmps109 rfl rfl ?_
  conv => whnf
  refine ⟨fun _ => ?_, (by intro q; cases q)⟩
  conv => whnf
  refine OOK.toUnsafe (b := b) (q := 0) (t' := 101) (fr := (0, 0)) 0 rfl rfl rfl rfl rfl (by decide) rfl (by show 0 < 2; decide) ?_
  conv => whnf
  refine OOK.extern (v := .pointer (some ⟨b, 0, none⟩)) rfl rfl rfl (fun w hw => ?_) ?_
  · refine (run_callFunc_extern rfl (by kernel_rfl) (by kernel_rfl) (by kernel_rfl) (e := Extern.AbiNoEscape.same) (by kernel_rfl) _ w).trans ?_
    rfl
  conv => whnf
  refine OOK.fromUnsafe (b := b) (q := 0) (t' := 101) (fr := (0, 0)) 0 rfl rfl rfl rfl rfl rfl (by kernel_rfl) ?_
  conv => whnf
  exact .mk ⟨_, [0], _, rfl, by decide, rfl, ⟨rfl, trivial⟩, rfl, rfl⟩
theorem f_ccheck1 (g : GH) (b : Nat) (A : Option Addr) (n c : Nat) : Tri Tryz.prog 109 [.pointer (some ⟨b, 0, none⟩)] g [bBox b true A n c] fun v g' m' => v = .tuple #[] ∧ m' = [bBox b true A n c] := by
  refine Tri.vc [.own 0 0] Tryz.func109 rfl Tryz.ntmps109 rfl rfl ?_
  conv => whnf
  refine ⟨(by intro q; cases q), fun _ => ?_⟩
  conv => whnf
  refine OOK.neqSame rfl rfl rfl rfl rfl ?_
  conv => whnf
  refine ⟨(by intro q; cases q), fun _ => ?_⟩
  conv => whnf
  exact .mk ⟨_, [0], _, rfl, by decide, rfl, ⟨rfl, trivial⟩, rfl, rfl⟩
theorem f_bgrow (g : GH) (b : Nat) (n : Nat) (hn : n ≤ 100000000) (hn0 : 0 < n) : Tri Tryz.prog 110 [.pointer (some ⟨b, 0, none⟩), .int .i64 n] g [bBox b true none 0 0] fun v g' m' => ∃ r c rest, v = .tuple #[] ∧ rest.length = c ∧ n ≤ c ∧ m' = [bBox b true (some ⟨r, 0, none⟩) 0 c, ⟨r, .cells rest 5 (0, 0)⟩] := by
  refine Tri.cok [.own 0 0, .val (.int .i64 n)] Tryz.func110 rfl Tryz.ntmps110 rfl rfl ?_
  refine COK.seq (COK.draw [0] (by kernel_rfl) (by kernel_rfl) ?_)
  conv => whnf
  have hw0 : IntKind.i64.wrap (IntKind.i64.wrap (2 * ((0 : Nat) : Int)) + (n : Int)) = (n : Int) := by rw [i64_in (x := 2 * ((0 : Nat) : Int)) (by decide) (by decide), i64_in (by omega) (by omega)]; omega
  rw [hw0]
  refine OOK.noZero (el := 5) (N := n) rfl rfl rfl (fun w => ?_) ?_
  · obtain ⟨cs, h1, h2, _⟩ := Lib.run_makeNoZero (P := Tryz.prog) w #[3] 22 5 rfl n (by omega)
    refine ⟨cs, (run_callFunc_extern rfl (by kernel_rfl) (by kernel_rfl) (by kernel_rfl) (e := Extern.BytealgMakeNoZero.makeNoZero #[3] #[22]) (by kernel_rfl) _ w).trans ?_, h2⟩
    rw [h1]
    rfl
  intro r rest hr
  conv => whnf
  refine ⟨⟨rfl, trivial⟩, ?_⟩
  conv => whnf
  refine ⟨⟨by omega, by omega⟩, ?_⟩
  conv => whnf
  rw [if_neg (by omega : ¬ rest.length = 0)]
  refine vcC_ok _ _ _ _ _ ?_
  conv => whnf
  refine OOK.copyOwn (b := r) (q := 0 + 0 * 1) (dn := 0) (dc := rest.length) (k := 0) (cs := rest) (ys := []) (t' := 5) 1 rfl rfl rfl rfl rfl (size := 1) rfl rfl (fun w hw => ⟨rfl, rfl⟩) (fun v hv => by simp at hv) (by simp) (cs' := rest) (by simp) ?_
  conv => whnf
  exact .mk ⟨_, [0, 1], _, rfl, by decide, rfl, ⟨rfl, trivial⟩, r, rest.length, rest, rfl, rfl, hr, rfl⟩
theorem f_bGrow (g : GH) (b : Nat) (n : Nat) (hn : n ≤ 100000000) (hn0 : 0 < n) : Tri Tryz.prog 75 [.pointer (some ⟨b, 0, none⟩), .int .i64 n] g [bBox b false none 0 0] fun v g' m' => ∃ r c rest, v = .tuple #[] ∧ rest.length = c ∧ n ≤ c ∧ m' = [bBox b true (some ⟨r, 0, none⟩) 0 c, ⟨r, .cells rest 5 (0, 0)⟩] := by
  refine Tri.cok [.own 0 0, .val (.int .i64 n)] Tryz.func75 rfl Tryz.ntmps75 rfl rfl ?_
  refine COK.seq (vcC_ok _ _ _ _ _ ?_)
  conv => whnf
  refine OOK.call [0] rfl rfl rfl (by kernel_rfl) rfl (f_ccheck g b none 0 0) (by decide) rfl ?_
  rintro v_ g1 m_ hg1 ⟨rfl, rfl⟩
  conv => whnf
  refine COK.seq (vcC_ok _ _ _ _ _ ?_)
  conv => whnf
  refine ⟨fun q => absurd (of_decide_eq_true q) (by omega), fun _ => ?_⟩
  conv => whnf
  refine COK.seq (COK.draw [0] (by kernel_rfl) (by kernel_rfl) ?_)
  conv => whnf
  refine COK.cond rfl (fun q => ?_) (fun q => ?_)
  · refine vcC_ok _ _ _ _ _ ?_
    conv => whnf
    refine OOK.call [0] rfl rfl rfl (by kernel_rfl) rfl (f_bgrow g1 b n hn hn0) (by decide) rfl ?_
    rintro v_ g2 m_ hg2 ⟨r, c, rest, rfl, hc, hnc, rfl⟩
    conv => whnf
    exact .mk ⟨_, [0, 1], _, rfl, by decide, rfl, ⟨rfl, trivial⟩, r, c, rest, rfl, hc, hnc, rfl⟩
  · have := of_decide_eq_false q
    rw [show IntKind.i64.wrap (((0 : Nat) : Int) - ((0 : Nat) : Int)) = 0 from rfl] at this
    omega
theorem bytesV_enc : ∀ (x : List UInt8), bytesV x = x.flatMap encB
  | [] => rfl
  | y :: r => by
    have := bytesV_enc r
    unfold bytesV at *
    rw [List.map_cons, List.flatMap_cons, this]
    rfl
theorem src_str {P : Program} {g : GH} {m : Mem} (x : List UInt8) : Src P g m (.string (str x)) x.length 1 (x.flatMap encB) := by
  have h : Src P g m (.string (str x)) (str x).size 1 (bytesV (str x).data.toList) := Src.string
  rw [str_size, bytesV_enc] at h
  simpa [str] using h
theorem bytes_one (x : List UInt8) : ∀ v ∈ x.flatMap encB, v.oneCell' = true := fun v hv => by
  obtain ⟨b, _, hb⟩ := List.mem_flatMap.1 hv
  exact encB_one b v hb
theorem f_wstr (g : GH) (b : Nat) (l x : List UInt8) (s : Slot) (A : Option Addr) (c : Nat) (hO : OwnAt 5 1 encB l s A c) (hl : l.length + x.length ≤ 100000000) :
    Tri Tryz.prog 76 [.pointer (some ⟨b, 0, none⟩), .string (str x)] g [bBox b true A l.length c, s] fun v g' m' => ∃ vv s' A' c', v = vv ∧ OwnAt 5 1 encB (l ++ x) s' A' c' ∧ m' = [bBox b true A' (l ++ x).length c', ⟨s.b, .dead⟩, s'] := by
  refine Tri.cok [.own 0 0, .val (.string (str x))] Tryz.func76 rfl Tryz.ntmps76 rfl rfl ?_
  refine COK.seq (vcC_ok _ _ _ _ _ ?_)
  conv => whnf
  refine COK.seq (vcC_ok _ _ _ _ _ ?_)
  conv => whnf
  refine OOK.call [0] rfl rfl rfl (by kernel_rfl) rfl (f_ccheck1 g b A l.length c) (by decide) rfl ?_
  rintro v_ g1 m_ hg1 ⟨rfl, rfl⟩
  conv => whnf
  by_cases h0 : x = []
  · subst h0
    refine COK.move 1 rfl ?_
    refine vcC_ok _ _ _ _ _ ?_
    conv => whnf
    have hn := hO.le
    refine OOK.append0 rfl rfl rfl rfl (.inr rfl) rfl (src_str []) hn ?_
    conv => whnf
    exact .mk ⟨_, [0, 1, 2], _, rfl, by decide, rfl, ⟨rfl, rfl, trivial⟩, _, s, A, c, rfl, by rw [List.append_nil]; exact hO, by rw [List.append_nil] <;> rfl⟩
  · refine vcC_ok _ _ _ _ _ ?_
    conv => whnf
    refine OOK.appendRowN x 1 encB_len rfl rfl rfl rfl (.inr rfl) rfl (size := 1) (bytes := 1) rfl rfl rfl (by decide) rfl rfl hO (src_str x) (bytes_one x) (by omega) (List.length_pos_iff.2 h0) ?_
    intro s' A' c' hO'
    conv => whnf
    refine .mk ⟨_, [0, 1, 2], _, rfl, by decide, rfl, ⟨rfl, rfl, trivial⟩, _, s', A', c', rfl, hO', ?_⟩
    rw [List.length_append]
    rfl
theorem f_bstr (g : GH) (b r : Nat) (l : List UInt8) (c : Nat) (rest : List Value) (hl : l.length ≤ 100000000) (h0 : l ≠ []) (hc : l.length ≤ c) :
    Tri Tryz.prog 77 [.pointer (some ⟨b, 0, none⟩)] g [bBox b true (some ⟨r, 0, none⟩) l.length c, ⟨r, .cells (l.flatMap encB ++ rest) 5 (0, 0)⟩] fun v g' m' => v = .string (str l) ∧ m' = [bBox b true (some ⟨r, 0, none⟩) l.length c, ⟨r, .dead⟩] := by
  have hpos := List.length_pos_iff.2 h0
  refine Tri.cok [.own 0 0] Tryz.func77 rfl Tryz.ntmps77 rfl rfl ?_
  refine COK.seq (vcC_ok _ _ _ _ _ ?_)
  conv => whnf
  refine COK.seq (COK.draw [0] (by kernel_rfl) (by kernel_rfl) ?_)
  conv => whnf
  refine OOK.sliceData rfl rfl (by omega) ?_
  conv => whnf
  refine ⟨⟨rfl, rfl, trivial⟩, ?_⟩
  conv => whnf
  refine OOK.unsafeStr (b := r) (l := l) (rest := rest) 1 rfl rfl rfl rfl (by kernel_rfl) rfl h0 (by omega) ?_
  conv => whnf
  refine ⟨⟨rfl, rfl, trivial⟩, ?_⟩
  conv => whnf
  refine COK.ret ?_
  exact .mk ⟨_, [0, 1], _, rfl, by decide, rfl, ⟨rfl, rfl, trivial⟩, rfl, rfl⟩
def joinB (sep : List UInt8) : List (List UInt8) → List UInt8
  | [] => []
  | x :: r => x ++ r.flatMap fun y => sep ++ y
def sumL (ps : List (List UInt8)) : Nat := (ps.map List.length).sum
theorem sumL_take {ps : List (List UInt8)} {i : Nat} {l : List UInt8} (h : ps[i]? = some l) : sumL (ps.take (i + 1)) = sumL (ps.take i) + l.length := by
  unfold sumL
  rw [List.take_add_one, h]
  simp
theorem sumL_le (ps : List (List UInt8)) (i : Nat) : sumL (ps.take i) ≤ sumL ps := by
  unfold sumL
  conv => rhs; rw [← List.take_append_drop i ps]
  rw [List.map_append, List.sum_append]
  omega
theorem flat_sep (sep : List UInt8) : ∀ (r : List (List UInt8)), (r.flatMap fun y => sep ++ y).length = sep.length * r.length + sumL r
  | [] => rfl
  | y :: r => by
    have := flat_sep sep r
    unfold sumL at *
    rw [List.flatMap_cons, List.length_append, List.length_append, this, List.length_cons, List.map_cons, List.sum_cons, Nat.mul_add]
    omega
theorem join_len (sep x : List UInt8) (r : List (List UInt8)) : (joinB sep (x :: r)).length = sep.length * r.length + sumL (x :: r) := by
  unfold joinB
  rw [List.length_append, flat_sep]
  unfold sumL
  rw [List.map_cons, List.sum_cons]
  omega
structure Ws where
  i : Nat
  s : Slot
  A : Option Addr
  c : Nat
theorem f_join (g : GH) (A : Option Addr) (c : Nat) (ps : List (List UInt8)) (sep : List UInt8) (hA : Row g encK A ps) (hl : ps.length ≤ 1000) (hc : ps.length ≤ c) (hs : sep.length ≤ 10) (hs0 : sep ≠ []) (ht : (joinB sep ps).length ≤ 10000000) :
    Tri Tryz.prog 39 [.slice A ps.length c, .string (str sep)] g [] fun v g' m' => v = .string (str (joinB sep ps)) ∧ m' = [] := by
  have hsp := List.length_pos_iff.2 hs0
  refine Tri.cok [.val (.slice A ps.length c), .val (.string (str sep))] Tryz.func39 rfl Tryz.ntmps39 rfl rfl ?_
  refine COK.seq (vcC_ok _ _ _ _ _ ?_)
  conv => whnf
  refine COK.seq (vcC_ok _ _ _ _ _ ?_)
  conv => whnf
  conv => whnf
  refine ⟨fun q => ?_, fun q => ?_⟩
  · have h0 : ps = [] := List.eq_nil_of_length_eq_zero (by have := eq_of_beq q; omega)
    subst h0
    conv => whnf
    exact .mk ⟨_, [], _, rfl, by decide, rfl, trivial, rfl, rfl⟩
  have h0 : ps.length ≠ 0 := by simp only [beq_eq_false_iff_ne] at q; omega
  conv => whnf
  refine ⟨fun q => ?_, fun q1 => ?_⟩
  · have h1 : ps.length = 1 := by have := eq_of_beq q; omega
    obtain ⟨x, rfl⟩ := List.length_eq_one_iff.1 h1
    obtain ⟨a, rfl, hr⟩ := hA.at_ encK_len (i := 0) (x := x) rfl
    conv => whnf
    refine ⟨⟨by omega, by omega⟩, ?_⟩
    conv => whnf
    refine OOK.yn (YN.load rfl rfl rfl (v := .string (str x)) (Reads.at0 hr) ?_)
    conv => whnf
    have hj : joinB sep [x] = x := List.append_nil x
    exact .mk ⟨_, [], _, rfl, by decide, rfl, trivial, by rw [hj] <;> rfl, rfl⟩
  have h1 : ps.length ≠ 1 := by simp only [beq_eq_false_iff_ne] at q1; omega
  have h2 : 2 ≤ ps.length := by omega
  obtain ⟨x, r, rfl⟩ : ∃ x r, ps = x :: r := by
    cases ps with
    | nil => exact absurd rfl h0
    | cons x r => exact ⟨x, r, rfl⟩
  obtain ⟨L, hL⟩ : ∃ L, L = (x :: r).length := ⟨_, rfl⟩
  have hrl : r.length = L - 1 := by rw [hL]; simp
  have hjl := join_len sep x r
  rw [← hL] at hl hc h2 ⊢
  conv => whnf
  refine COK.seq (vcC_ok _ _ _ _ _ ?_)
  conv => whnf
  refine COK.seq (vcC_ok _ _ _ _ _ ?_)
  conv => whnf
  refine ⟨fun _ => ?_, fun q => absurd (of_decide_eq_false q) (by rw [str_size]; omega)⟩
  conv => whnf
  have hwL : IntKind.i64.wrap ((L : Int) - 1) = ((L - 1 : Nat) : Int) := by rw [i64_in (by omega) (by omega)]; omega
  rw [hwL]
  refine ⟨by omega, ?_⟩
  obtain ⟨D, hD, hD1⟩ : ∃ D, IntKind.i64.wrap (Int.tdiv 9223372036854775807 ((L - 1 : Nat) : Int)) = D ∧ 10000 ≤ D := by
    refine ⟨_, rfl, ?_⟩
    have hpos : (0 : Int) < ((L - 1 : Nat) : Int) := by omega
    have e1 : Int.tdiv 9223372036854775807 ((L - 1 : Nat) : Int) = 9223372036854775807 / ((L - 1 : Nat) : Int) := Int.tdiv_eq_ediv_of_nonneg (by decide)
    have e2 : 9223372036854775807 / ((L - 1 : Nat) : Int) ≤ 9223372036854775807 := Int.ediv_le_self _ (by decide)
    have e3 : 10000 ≤ 9223372036854775807 / ((L - 1 : Nat) : Int) := (Int.le_ediv_iff_mul_le hpos).2 (by omega)
    rw [e1, i64_in (by omega) e2]
    exact e3
  rw [hD]
  conv => whnf
  refine ⟨fun q => absurd (of_decide_eq_true q) (by rw [str_size]; omega), fun _ => ?_⟩
  conv => whnf
  have hwS : IntKind.i64.wrap (0 + IntKind.i64.wrap (((str sep).size : Int) * ((L - 1 : Nat) : Int))) = ((sep.length * (L - 1) : Nat) : Int) := by
    have hle : sep.length * (L - 1) ≤ 10 * 1000 := Nat.mul_le_mul hs (by omega)
    have e : ((str sep).size : Int) * ((L - 1 : Nat) : Int) = ((sep.length * (L - 1) : Nat) : Int) := by rw [str_size]; push_cast; rfl
    rw [e, i64_in (x := ((sep.length * (L - 1) : Nat) : Int)) (by omega) (by omega), i64_in (by omega) (by omega)]
    omega
  obtain ⟨N0, hN0⟩ : ∃ N0, N0 = sep.length * (L - 1) := ⟨_, rfl⟩
  rw [← hN0] at hwS
  rw [hrl, ← hN0] at hjl
  rw [hjl] at ht
  refine COK.seq (COK.cut (α := Unit) (fun _ => [(0, .val (.slice A L c)), (1, .val (.string (str sep))), (5, .val (.int .i64 ((N0 + sumL (x :: r) : Nat) : Int)))]) (fun _ => []) (fun _ _ => True) ?_ ?_)
  · refine vcC_ok _ _ _ _ _ ?_
    conv => whnf
    refine COK.loop (α := Nat) (fun i => [(0, .val (.slice A L c)), (1, .val (.string (str sep))), (5, .val (.int .i64 ((N0 + sumL ((x :: r).take i) : Nat) : Int))), (39, .val (.slice A L c)), (40, .val (.int .i64 L)), (41, .val (.int .i64 i))]) (fun _ => []) (fun i _ => i ≤ L) (fun i => L - i) 0 [] (Sub.of (by decide) rfl ⟨rfl, rfl, int_eq (by rw [hwL]; exact hwS), rfl, rfl, rfl, trivial⟩) (Nat.zero_le _) ?_
    intro i g1 hg1 hi
    by_cases hlt : i < L
    · obtain ⟨y, hy⟩ : ∃ y, (x :: r)[i]? = some y := ⟨_, List.getElem?_eq_getElem (by omega)⟩
      obtain ⟨a, rfl, hr⟩ := (hA.mono hg1).at_ encK_len hy
      have htk := sumL_take hy
      have hle := sumL_le (x :: r) (i + 1)
      refine vcC_ok _ _ _ _ _ ?_
      conv => whnf
      refine ⟨fun _ => ?_, fun q => absurd (of_decide_eq_false q) (by omega)⟩
      conv => whnf
      refine ⟨⟨by omega, by omega⟩, ?_⟩
      conv => whnf
      refine OOK.yn (YN.load rfl rfl rfl (v := .string (str y)) (Reads.at0 hr) ?_)
      conv => whnf
      refine ⟨fun q => absurd (of_decide_eq_true q) (by rw [str_size, i64_in (by omega) (by omega)]; omega), fun _ => ?_⟩
      conv => whnf
      refine ⟨i + 1, [], Sub.of (by decide) rfl ⟨rfl, rfl, int_eq ?_, rfl, rfl, int_eq (i64_in (by omega) (by omega)), trivial⟩, by omega, by omega⟩
      rw [str_size, i64_in (by omega) (by omega), htk]
      push_cast
      omega
    · have hid : i = L := by omega
      subst hid
      refine vcC_ok _ _ _ _ _ ?_
      conv => whnf
      refine ⟨fun q => absurd (of_decide_eq_true q) (by omega), fun _ => ?_⟩
      conv => whnf
      exact ⟨(), [], Sub.of (by decide) rfl ⟨rfl, rfl, int_eq (by rw [hL, List.take_length]), trivial⟩, trivial⟩
  rintro - g1 hg1 -
  refine COK.seq (vcC_ok _ _ _ _ _ ?_)
  conv => whnf
  intro bb
  conv => whnf
  have htot : 0 < N0 + sumL (x :: r) := by
    have : 1 * 1 ≤ sep.length * (L - 1) := Nat.mul_le_mul hsp (by omega)
    omega
  refine COK.seq (vcC_ok _ _ _ _ _ ?_)
  conv => whnf
  refine OOK.call [0] rfl rfl rfl (by kernel_rfl) rfl (f_bGrow g1 bb (N0 + sumL (x :: r)) (by omega) htot) (by decide) rfl ?_
  rintro v_ g2 m_ hg2 ⟨r0, c0, rest, rfl, hc0, hnc, rfl⟩
  conv => whnf
  refine COK.seq (vcC_ok _ _ _ _ _ ?_)
  conv => whnf
  obtain ⟨a, rfl, hr⟩ := (hA.mono (hg1.trans hg2)).at_ encK_len (i := 0) (x := x) rfl
  refine ⟨⟨by omega, by omega⟩, ?_⟩
  conv => whnf
  refine OOK.yn (YN.load rfl rfl rfl (v := .string (str x)) (Reads.at0 hr) ?_)
  conv => whnf
  refine OOK.call [0, 1] rfl rfl rfl (by kernel_rfl) rfl (f_wstr g2 bb [] x ⟨r0, .cells rest 5 (0, 0)⟩ (some ⟨r0, 0, none⟩) c0 (.own r0 c0 rest (by rw [Nat.mul_one]; exact hc0) (Nat.zero_le _)) (by have := sumL_le (x :: r) 1; have h2 : sumL ((x :: r).take 1) = x.length := (by simp [sumL]); show 0 + x.length ≤ _; omega)) (by decide) rfl ?_
  rintro v_ g3 m_ hg3 ⟨vv, s1, A1, c1, rfl, hO1, rfl⟩
  conv => whnf
  have hlw : ∀ i, i ≤ r.length → (x ++ (r.take i).flatMap fun y => sep ++ y).length ≤ 10000000 := fun i hi => by
    have h1 := flat_sep sep (r.take i)
    have h2 := sumL_le r i
    have h3 : sumL (x :: r) = x.length + sumL r := by simp [sumL]
    have h4 : sep.length * (r.take i).length ≤ N0 := by rw [hN0, List.length_take]; exact Nat.mul_le_mul_left _ (by omega)
    rw [List.length_append, h1]
    omega
  refine COK.seq (COK.cut (α := Ws) (fun y => [(8, .own 0 0)]) (fun y => [bBox bb true y.A (joinB sep (x :: r)).length y.c, y.s]) (fun y g => OwnAt 5 1 encB (joinB sep (x :: r)) y.s y.A y.c) ?_ ?_)
  · refine vcC_ok _ _ _ _ _ ?_
    conv => whnf
    refine ⟨⟨by omega, by omega⟩, ?_⟩
    conv => whnf
    refine COK.loop (α := Ws) (fun y => [(1, .val (.string (str sep))), (8, .own 0 0), (63, .val (.slice (some (addN a (1 * 1))) (L - 1) (c - 1))), (64, .val (.int .i64 ((L - 1 : Nat) : Int))), (65, .val (.int .i64 y.i))]) (fun y => [bBox bb true y.A (x ++ (r.take y.i).flatMap fun y => sep ++ y).length y.c, y.s]) (fun y g => y.i ≤ L - 1 ∧ OwnAt 5 1 encB (x ++ (r.take y.i).flatMap fun y => sep ++ y) y.s y.A y.c) (fun y => L - 1 - y.i) ⟨0, s1, A1, c1⟩ [0, 2] (Sub.of (by decide) ?_ ⟨rfl, rfl, (by show Value.slice (if c = 1 then _ else _) _ _ = _; rw [if_neg (by omega)]; rfl), int_eq (by omega), rfl, trivial⟩) ⟨Nat.zero_le _, ?_⟩ ?_
    · show pickM _ _ = some [bBox bb true A1 (x ++ (r.take 0).flatMap fun y => sep ++ y).length c1, s1]
      rw [List.take_zero, List.flatMap_nil, List.append_nil]
      rfl
    · rw [List.take_zero, List.flatMap_nil, List.append_nil]
      exact hO1
    rintro ⟨i, s2, A2, c2⟩ g4 hg4 ⟨hi, hO2⟩
    simp only at hi hO2
    dsimp only
    obtain ⟨w, hw⟩ : ∃ w, w = x ++ (r.take i).flatMap fun y => sep ++ y := ⟨_, rfl⟩
    have hwl := hlw i (by omega)
    rw [← hw] at hO2 hwl ⊢
    by_cases hlt : i < L - 1
    · obtain ⟨y, hy⟩ : ∃ y, r[i]? = some y := ⟨_, List.getElem?_eq_getElem (by omega)⟩
      obtain ⟨a', ha', hr2⟩ := (hA.mono (((hg1.trans hg2).trans hg3).trans hg4)).at_ encK_len (i := i + 1) (x := y) (by simpa using hy)
      obtain rfl := Option.some.inj ha'
      have hnext : (w ++ sep) ++ y = x ++ (r.take (i + 1)).flatMap fun y => sep ++ y := by
        rw [hw, List.take_add_one, hy]
        simp only [Option.toList_some, List.flatMap_append, List.flatMap_cons, List.flatMap_nil, List.append_nil, List.append_assoc]
      have hwl2 := hlw (i + 1) (by omega)
      rw [← hnext] at hwl2
      have hl3 : w.length + sep.length + y.length ≤ 10000000 := by rw [List.length_append, List.length_append] at hwl2; exact hwl2
      refine vcC_ok _ _ _ _ _ ?_
      conv => whnf
      refine ⟨fun _ => ?_, fun q => absurd (of_decide_eq_false q) (by omega)⟩
      conv => whnf
      refine ⟨⟨by omega, by omega⟩, ?_⟩
      conv => whnf
      refine OOK.yn (YN.load rfl rfl rfl (v := .string (str y)) ?_ ?_)
      · rw [addN_add, show 1 * 1 + ((i : Int)).toNat * 1 = (i + 1) * 1 by rw [Int.toNat_natCast]; omega]
        exact Reads.at0 hr2
      conv => whnf
      refine OOK.call [0, 1] rfl rfl rfl (by kernel_rfl) rfl (f_wstr g4 bb w sep s2 A2 c2 hO2 (by omega)) (by decide) rfl ?_
      rintro v_ g5 m_ hg5 ⟨vv, s3, A3, c3, rfl, hO3, rfl⟩
      conv => whnf
      refine OOK.call [0, 2] rfl rfl rfl (by kernel_rfl) rfl (f_wstr g5 bb (w ++ sep) y s3 A3 c3 hO3 (by rw [List.length_append]; omega)) (by decide) rfl ?_
      rintro v_ g6 m_ hg6 ⟨vv2, s4, A4, c4, rfl, hO4, rfl⟩
      conv => whnf
      rw [hnext] at hO4 ⊢
      exact ⟨⟨i + 1, s4, A4, c4⟩, [0, 3], Sub.of (by decide) rfl ⟨rfl, rfl, rfl, rfl, int_eq (i64_in (by omega) (by omega)), trivial⟩, ⟨by show i + 1 ≤ L - 1; omega, hO4⟩, by show L - 1 - (i + 1) < L - 1 - i; omega⟩
    · have hid : i = L - 1 := by omega
      refine vcC_ok _ _ _ _ _ ?_
      conv => whnf
      refine ⟨fun q => absurd (of_decide_eq_true q) (by omega), fun _ => ?_⟩
      conv => whnf
      have hj : w = joinB sep (x :: r) := by rw [hw, hid, ← hrl, List.take_length]; rfl
      rw [hj] at hO2 ⊢
      exact ⟨⟨0, s2, A2, c2⟩, [0, 1], Sub.of (by decide) rfl ⟨rfl, trivial⟩, hO2⟩
  rintro ⟨i2, s2, A2, c2⟩ g4 hg4 hO2
  simp only at hO2
  dsimp only
  have hne : joinB sep (x :: r) ≠ [] := fun h => by rw [h] at hjl; simp at hjl; omega
  cases hO2 with
  | nil b h => exact absurd h hne
  | own b _ rest h3 h4 =>
    refine vcC_ok _ _ _ _ _ ?_
    conv => whnf
    refine OOK.call [0, 1] rfl rfl rfl (by kernel_rfl) rfl (f_bstr g4 bb b (joinB sep (x :: r)) c2 rest (by omega) hne h4) (by decide) rfl ?_
    rintro v_ g5 m_ hg5 ⟨rfl, rfl⟩
    conv => whnf
    exact .mk ⟨_, [], _, rfl, by decide, rfl, trivial, rfl, rfl⟩
end Go.Proofs.YthkfnmmbjoadbaaGreatDoor
/- WholeTexts: the laying of strconv.Itoa, in plain words (printed by lay.py). -/
set_option maxRecDepth 100000
namespace Go.Proofs
open Go.Shelf
def Tryz.itoaM_ren : Go.Shelf.Ren := ⟨fun | 171 => 45 | 243 => 81 | 246 => 112 | 283 => 131 | 284 => 132 | 285 => 133 | 286 => 134 | 129 => 145 | 317 => 152 | 318 => 153 | 319 => 154 | 320 => 155 | 337 => 164 | 338 => 165 | n => n, fun | 3 => 3 | 9 => 9 | 2 => 2 | 4 => 4 | 171 => 136 | 0 => 0 | 53 => 51 | 37 => 22 | 5 => 5 | 173 => 139 | 212 => 159 | 51 => 150 | 20 => 20 | 213 => 160 | 46 => 60 | 232 => 180 | 233 => 181 | n => n, fun | 17 => 1 | 18 => 4 | 19 => 5 | n => n⟩
theorem Tryz.itoaM : LaysM.n171 Tryz.prog Tryz.itoaM_ren := {
  mixed := by kernel_rfl,
  f129 := Tryz.func145.trans (congrArg some (by kernel_rfl)),
  f171 := Tryz.func45.trans (congrArg some (by kernel_rfl)),
  f243 := Tryz.func81.trans (congrArg some (by kernel_rfl)),
  f246 := Tryz.func112.trans (congrArg some (by kernel_rfl)),
  f283 := Tryz.func131.trans (congrArg some (by kernel_rfl)),
  f284 := Tryz.func132.trans (congrArg some (by kernel_rfl)),
  f285 := Tryz.func133.trans (congrArg some (by kernel_rfl)),
  f286 := Tryz.func134.trans (congrArg some (by kernel_rfl)),
  f317 := Tryz.func152.trans (congrArg some (by kernel_rfl)),
  f318 := Tryz.func153.trans (congrArg some (by kernel_rfl)),
  f319 := Tryz.func154.trans (congrArg some (by kernel_rfl)),
  f320 := Tryz.func155.trans (congrArg some (by kernel_rfl)),
  f337 := Tryz.func164.trans (congrArg some (by kernel_rfl)),
  f338 := Tryz.func165.trans (congrArg some (by kernel_rfl)),
  t0 := Tryz.underlying0,
  a0 := Tryz.isAgg0,
  z0 := Tryz.sizeOf0,
  v0 := Tryz.zeroValue0,
  t2 := Tryz.underlying2,
  a2 := Tryz.isAgg2,
  z2 := Tryz.sizeOf2,
  v2 := Tryz.zeroValue2,
  t3 := Tryz.underlying3,
  a3 := Tryz.isAgg3,
  z3 := Tryz.sizeOf3,
  v3 := Tryz.zeroValue3,
  t4 := Tryz.underlying4,
  a4 := Tryz.isAgg4,
  z4 := Tryz.sizeOf4,
  v4 := Tryz.zeroValue4,
  t5 := Tryz.underlying5,
  a5 := Tryz.isAgg5,
  z5 := Tryz.sizeOf5,
  v5 := Tryz.zeroValue5,
  t9 := Tryz.underlying9,
  a9 := Tryz.isAgg9,
  z9 := Tryz.sizeOf9,
  v9 := Tryz.zeroValue9,
  t20 := Tryz.underlying20,
  a20 := Tryz.isAgg20,
  z20 := Tryz.sizeOf20,
  v20 := Tryz.zeroValue20,
  t37 := Tryz.underlying22,
  a37 := Tryz.isAgg22,
  z37 := Tryz.sizeOf22,
  v37 := Tryz.zeroValue22,
  t46 := Tryz.underlying60,
  a46 := Tryz.isAgg60,
  z46 := Tryz.sizeOf60,
  v46 := Tryz.zeroValue60,
  t51 := Tryz.underlying150,
  a51 := Tryz.isAgg150,
  z51 := Tryz.sizeOf150,
  v51 := Tryz.zeroValue150,
  t53 := Tryz.underlying51,
  a53 := Tryz.isAgg51,
  z53 := Tryz.sizeOf51,
  v53 := Tryz.zeroValue51,
  t171 := Tryz.underlying136,
  a171 := Tryz.isAgg136,
  z171 := Tryz.sizeOf136,
  v171 := Tryz.zeroValue136,
  t173 := Tryz.underlying139,
  a173 := Tryz.isAgg139,
  z173 := Tryz.sizeOf139,
  v173 := Tryz.zeroValue139,
  t212 := Tryz.underlying159,
  a212 := Tryz.isAgg159,
  z212 := Tryz.sizeOf159,
  v212 := Tryz.zeroValue159,
  t213 := Tryz.underlying160,
  a213 := Tryz.isAgg160,
  z213 := Tryz.sizeOf160,
  t232 := Tryz.underlying180,
  a232 := Tryz.isAgg180,
  z232 := Tryz.sizeOf180,
  v232 := Tryz.zeroValue180,
  t233 := Tryz.underlying181,
  a233 := Tryz.isAgg181,
  z233 := Tryz.sizeOf181,
  v233 := Tryz.zeroValue181,
  g17 := by kernel_rfl,
  g18 := by kernel_rfl,
  g19 := by kernel_rfl,
  i0 := by kernel_rfl,
  i2 := by kernel_rfl,
  i3 := by kernel_rfl,
  i4 := by kernel_rfl,
  i5 := by kernel_rfl,
  i9 := by kernel_rfl,
  i20 := by kernel_rfl,
  i37 := by kernel_rfl,
  i46 := by kernel_rfl,
  i51 := by kernel_rfl,
  i53 := by kernel_rfl,
  i171 := by kernel_rfl,
  i173 := by kernel_rfl,
  i212 := by kernel_rfl,
  i232 := by kernel_rfl,
  i233 := by kernel_rfl,
  m17 := by kernel_rfl,
  m18 := by kernel_rfl,
  m19 := by kernel_rfl }
end Go.Proofs
/- WholeTexts: numbers and truth as text. -/
set_option linter.unusedVariables false
set_option linter.unusedSimpArgs false
set_option maxRecDepth 100000
namespace Go.Proofs.YthkfnmmbjoadbaaGreatDoor
open Go Go.SX

theorem _root_.Go.SX.Has.below {w w' : World} {g : GH} {m : Mem} (h : Has w g m) (hB : Go.RowKit.Below w.heap.size w w') : Has w' g m ∧ Fr w m g w' m g := by
  have hlt : ∀ {b : Nat} {o : Obj}, w.heap[b]? = some o → w'.heap[b]? = some o := fun hb => by
    rw [hB.block _ (Array.getElem?_eq_some_iff.1 hb).1]; exact hb
  exact ⟨⟨fun b o hb => hlt (h.sub b o hb), fun s hs o ho => hlt (h.own s hs o ho), h.inj, h.apart⟩,
    ⟨hB.os, hB.tape, hB.output, hB.size, .refl _, fun b hb _ => hB.block b hb, fun _ _ _ => rfl, fun _ _ h => h⟩⟩
/-- The library's table is known for good. -/
def TabG (g : GH) : Prop := ∀ w : World, (∀ b o, g b = some o → w.heap[b]? = some o) → Lib.TabIs Tryz.prog w "internal/strconv.uint64pow10" .u64 Lib.pow10Tab
theorem TabG.mono {g g' : GH} (h : TabG g) (k : g.le g') : TabG g' := fun w hw => h w fun b o hb => hw b o (k b o hb)
theorem f_itoa (g : GH) (n : Int) (h0 : -9223372036854775808 ≤ n) (h1 : n ≤ 9223372036854775807) (ht : TabG g) : Tri Tryz.prog 45 [.int .i64 n] g [] fun v g' m' => v = .string (str (Lib.itoa n)) ∧ m' = [] := by
  intro w hw
  refine (Any.strconv_Itoa Tryz.itoaM n h0 h1 w (ht w hw.sub)).mono ?_
  rintro e w' ⟨rfl, k, os, rfl⟩
  have hB : Go.RowKit.Below w.heap.size w («Sort».grow (w.drewN k) os) := by
    refine ⟨rfl, rfl, rfl, ?_, fun j hj => ?_⟩
    · show w.heap.size ≤ (w.heap ++ os).size
      rw [Array.size_append]
      omega
    · show (w.heap ++ os)[j]? = w.heap[j]?
      rw [Array.getElem?_append_left hj]
  exact ⟨_, g, [], rfl, ⟨rfl, rfl⟩, .refl _, (hw.below hB).1, (hw.below hB).2⟩
theorem f_fbool0 (g : GH) (b : Bool) : Tri Tryz.prog 80 [.bool b] g [] fun v g' m' => v = .string (str (if b then [116, 114, 117, 101] else [102, 97, 108, 115, 101])) ∧ m' = [] := by
  refine Tri.vc [.val (.bool b)] Tryz.func80 rfl Tryz.ntmps80 rfl rfl ?_
  conv => whnf
  refine ⟨fun q => ?_, fun q => ?_⟩
  · conv => whnf
    subst q
    exact .mk ⟨_, [], _, rfl, by decide, rfl, trivial, rfl, rfl⟩
  · conv => whnf
    subst q
    exact .mk ⟨_, [], _, rfl, by decide, rfl, trivial, rfl, rfl⟩
theorem f_fbool (g : GH) (b : Bool) : Tri Tryz.prog 44 [.bool b] g [] fun v g' m' => v = .string (str (if b then [116, 114, 117, 101] else [102, 97, 108, 115, 101])) ∧ m' = [] := by
  refine Tri.vc [.val (.bool b)] Tryz.func44 rfl Tryz.ntmps44 rfl rfl ?_
  conv => whnf
  refine OOK.call [] rfl rfl rfl (by kernel_rfl) rfl (f_fbool0 g b) (by decide) rfl ?_
  rintro v_ g1 m_ hg1 ⟨rfl, rfl⟩
  conv => whnf
  exact .mk ⟨_, [], _, rfl, by decide, rfl, trivial, rfl, rfl⟩
end Go.Proofs.YthkfnmmbjoadbaaGreatDoor
/- WholeTexts: loomText. -/
set_option linter.unusedVariables false
set_option linter.unusedSimpArgs false
set_option maxRecDepth 100000
namespace Go.Proofs.YthkfnmmbjoadbaaGreatDoor
open Go Go.SX

def kNull : List UInt8 := [110, 117, 108, 108]
def kTrue : List UInt8 := [116, 114, 117, 101]
def kFalse : List UInt8 := [102, 97, 108, 115, 101]
def kSep : List UInt8 := [44, 32]
mutual
def T.txt : T → List UInt8
  | .mk kind int text items keys =>
    if kind = 0 then kNull else if kind = 1 then (if int = 1 then kTrue else kFalse) else if kind = 2 then Lib.itoa int else if kind = 3 then quoteT text
    else if kind = 5 then [123] ++ joinB kSep (T.txtm items keys) ++ [125] else [91] ++ joinB kSep (T.txts items) ++ [93]
def T.txts : List T → List (List UInt8)
  | [] => []
  | x :: r => x.txt :: T.txts r
def T.txtm : List T → List (List UInt8) → List (List UInt8)
  | [], _ => []
  | x :: r, ks => (quoteT (ks.headD []) ++ [58, 32] ++ x.txt) :: T.txtm r ks.tail
end
theorem T.txts_get : ∀ (l : List T) (i : Nat), (T.txts l)[i]? = l[i]?.map T.txt
  | [], i => by simp [T.txts]
  | x :: r, 0 => by simp [T.txts]
  | x :: r, i + 1 => by simp [T.txts, T.txts_get r i]
theorem T.txts_len : ∀ (l : List T), (T.txts l).length = l.length
  | [] => rfl
  | x :: r => by simp [T.txts, T.txts_len r]
theorem T.txtm_len : ∀ (l : List T) (ks : List (List UInt8)), (T.txtm l ks).length = l.length
  | [], ks => by simp [T.txtm]
  | x :: r, ks => by simp [T.txtm, T.txtm_len r]
theorem T.txtm_get : ∀ (l : List T) (ks : List (List UInt8)) (i : Nat) (x : T) (k : List UInt8), l[i]? = some x → ks[i]? = some k → (T.txtm l ks)[i]? = some (quoteT k ++ [58, 32] ++ x.txt)
  | [], ks, i, x, k, h1, h2 => by simp at h1
  | y :: r, [], i, x, k, h1, h2 => by simp at h2
  | y :: r, k' :: ks, 0, x, k, h1, h2 => by simp at h1 h2; subst h1; subst h2; simp [T.txtm]
  | y :: r, k' :: ks, i + 1, x, k, h1, h2 => by
    simp only [List.getElem?_cons_succ] at h1 h2
    simp only [T.txtm, List.getElem?_cons_succ, List.tail_cons]
    exact T.txtm_get r ks i x k h1 h2
theorem WF.inv {d : Nat} {kind int : Int} {text : List UInt8} {its : List T} {keys : List (List UInt8)} (h : WF d (.mk kind int text its keys)) :
    (kind = 0 ∧ int = 0 ∧ text = [] ∧ its = [] ∧ keys = []) ∨ (kind = 1 ∧ (int = 0 ∨ int = 1) ∧ text = [] ∧ its = [] ∧ keys = []) ∨
    (kind = 2 ∧ -9223372036854775808 ≤ int ∧ int ≤ 9223372036854775807 ∧ text = [] ∧ its = [] ∧ keys = []) ∨ (kind = 3 ∧ int = 0 ∧ text.length ≤ 6 ∧ its = [] ∧ keys = []) ∨
    (∃ d', d = d' + 1 ∧ kind = 4 ∧ int = 0 ∧ text = [] ∧ keys = [] ∧ its.length ≤ 4 ∧ ∀ x ∈ its, WF d' x) ∨
    (∃ d', d = d' + 1 ∧ kind = 5 ∧ int = 0 ∧ text = [] ∧ keys.length = its.length ∧ its.length ≤ 4 ∧ Asc keys ∧ (∀ k ∈ keys, k.length ≤ 6) ∧ ∀ x ∈ its, WF d' x) := by
  cases h with
  | null d => exact .inl ⟨rfl, rfl, rfl, rfl, rfl⟩
  | bool d b h => exact .inr (.inl ⟨rfl, h, rfl, rfl, rfl⟩)
  | int d n h1 h2 => exact .inr (.inr (.inl ⟨rfl, h1, h2, rfl, rfl, rfl⟩))
  | text d s h => exact .inr (.inr (.inr (.inl ⟨rfl, rfl, h, rfl, rfl⟩)))
  | list d l hl h => exact .inr (.inr (.inr (.inr (.inl ⟨d, rfl, rfl, rfl, rfl, rfl, hl, h⟩))))
  | map d l ks hk hl hs h6 h => exact .inr (.inr (.inr (.inr (.inr ⟨d, rfl, rfl, rfl, rfl, hk, hl, hs, h6, h⟩))))
def bnd : Nat → Nat
  | 0 => 26
  | d + 1 => 4 * bnd d + 134
theorem bnd_lo : ∀ d, 26 ≤ bnd d
  | 0 => Nat.le_refl _
  | d + 1 => by have := bnd_lo d; unfold bnd; omega
theorem sumL_bound (B : Nat) : ∀ (l : List (List UInt8)), (∀ x ∈ l, x.length ≤ B) → sumL l ≤ B * l.length
  | [], _ => Nat.zero_le _
  | x :: r, h => by
    have h1 := sumL_bound B r fun y hy => h y (List.mem_cons_of_mem _ hy)
    have h2 := h x List.mem_cons_self
    unfold sumL at *
    rw [List.map_cons, List.sum_cons, List.length_cons, Nat.mul_add]
    omega
theorem join_bound (B : Nat) (l : List (List UInt8)) (h : ∀ x ∈ l, x.length ≤ B) (h4 : l.length ≤ 4) : (joinB kSep l).length ≤ 4 * B + 8 := by
  cases l with
  | nil => simp [joinB]
  | cons x r =>
    have h1 := sumL_bound B (x :: r) h
    have h2 : B * (x :: r).length ≤ B * 4 := Nat.mul_le_mul_left _ h4
    rw [join_len]
    simp only [List.length_cons] at h4
    have : kSep.length = 2 := rfl
    rw [this]
    omega
theorem parts_bound {d : Nat} {kind int : Int} {text : List UInt8} {its : List T} {keys : List (List UInt8)} (B : Nat) (hB : 0 ≤ B) (ih : ∀ x ∈ its, x.txt.length ≤ B) (h6 : ∀ k ∈ keys, k.length ≤ 6) : ∀ (l : List T) (ks : List (List UInt8)), (∀ x ∈ l, x.txt.length ≤ B) → (∀ k ∈ ks, k.length ≤ 6) → ∀ y ∈ T.txtm l ks, y.length ≤ B + 28
  | [], ks, _, _, y, hy => by simp [T.txtm] at hy
  | x :: r, ks, h1, h2, y, hy => by
    simp only [T.txtm, List.mem_cons] at hy
    rcases hy with rfl | hy
    · have hx := h1 x List.mem_cons_self
      have hk : (ks.headD []).length ≤ 6 := by
        cases ks with
        | nil => simp
        | cons k ks => exact h2 k List.mem_cons_self
      have hq := quote_len (ks.headD [])
      simp only [List.length_append, List.length_cons, List.length_nil]
      omega
    · exact parts_bound (d := d) (kind := kind) (int := int) (text := text) B hB ih h6 r ks.tail (fun z hz => h1 z (List.mem_cons_of_mem _ hz)) (fun k hk => h2 k (List.mem_of_mem_tail hk)) y hy
theorem txts_bound (B : Nat) : ∀ (l : List T), (∀ x ∈ l, x.txt.length ≤ B) → ∀ y ∈ T.txts l, y.length ≤ B
  | [], _, y, hy => by simp [T.txts] at hy
  | x :: r, h1, y, hy => by
    simp only [T.txts, List.mem_cons] at hy
    rcases hy with rfl | hy
    · exact h1 x List.mem_cons_self
    · exact txts_bound B r (fun z hz => h1 z (List.mem_cons_of_mem _ hz)) y hy
theorem txt_len (t : T) : ∀ d, WF d t → t.txt.length ≤ bnd d := by
  induction t using T.ind with
  | h kind int text its keys ih =>
    intro d h
    have hlo := bnd_lo d
    rcases h.inv with ⟨rfl, rfl, rfl, rfl, rfl⟩ | ⟨rfl, hi, rfl, rfl, rfl⟩ | ⟨rfl, h1, h2, rfl, rfl, rfl⟩ | ⟨rfl, rfl, h6, rfl, rfl⟩ | ⟨d', rfl, rfl, rfl, rfl, rfl, hl, hw⟩ | ⟨d', rfl, rfl, rfl, rfl, hk, hl, hs, h6, hw⟩
    · rw [T.txt, if_pos rfl]; show 4 ≤ _; omega
    · rw [T.txt, if_neg (by decide), if_pos rfl]
      split
      · show 4 ≤ _; omega
      · show 5 ≤ _; omega
    · rw [T.txt, if_neg (by decide), if_neg (by decide), if_pos rfl]
      have := Lib.itoa_length_le int h1 h2
      omega
    · rw [T.txt, if_neg (by decide), if_neg (by decide), if_neg (by decide), if_pos rfl]
      have := quote_len text
      omega
    · rw [T.txt, if_neg (by decide), if_neg (by decide), if_neg (by decide), if_neg (by decide), if_neg (by decide)]
      have := join_bound (bnd d') (T.txts its) (txts_bound _ its fun x hx => ih x hx d' (hw x hx)) (by rw [T.txts_len]; exact hl)
      simp only [List.length_append, List.length_cons, List.length_nil]
      unfold bnd
      omega
    · rw [T.txt, if_neg (by decide), if_neg (by decide), if_neg (by decide), if_neg (by decide), if_pos rfl]
      have hb := parts_bound (d := d') (kind := 5) (int := 0) (text := []) (bnd d') (Nat.zero_le _) (fun x hx => ih x hx d' (hw x hx)) h6 its keys (fun x hx => ih x hx d' (hw x hx)) h6
      have := join_bound (bnd d' + 28) (T.txtm its keys) hb (by rw [T.txtm_len]; exact hl)
      simp only [List.length_append, List.length_cons, List.length_nil]
      unfold bnd
      omega
end Go.Proofs.YthkfnmmbjoadbaaGreatDoor
/- WholeTexts: the walk of loomText. -/
set_option linter.unusedVariables false
set_option linter.unusedSimpArgs false
set_option maxRecDepth 100000
namespace Go.Proofs.YthkfnmmbjoadbaaGreatDoor
open Go Go.SX

structure Ps where
  i : Nat
  s : Slot
  A : Option Addr
  c : Nat
theorem T.txt0 (i t l k) : (T.mk 0 i t l k).txt = kNull := by rw [T.txt]; rfl
theorem T.txt1 (i t l k) : (T.mk 1 i t l k).txt = if i = 1 then kTrue else kFalse := by rw [T.txt]; rfl
theorem T.txt2 (i t l k) : (T.mk 2 i t l k).txt = Lib.itoa i := by rw [T.txt]; rfl
theorem T.txt3 (i t l k) : (T.mk 3 i t l k).txt = quoteT t := by rw [T.txt]; rfl
theorem T.txt4 (i t l k) : (T.mk 4 i t l k).txt = [91] ++ joinB kSep (T.txts l) ++ [93] := by rw [T.txt]; rfl
theorem T.txt5 (i t l k) : (T.mk 5 i t l k).txt = [123] ++ joinB kSep (T.txtm l k) ++ [125] := by rw [T.txt]; rfl
theorem map_nil {l : List Val} (h : l.map Val.t = []) : l = [] := List.map_eq_nil_iff.1 h
theorem take_get {α : Type} {l : List α} {i : Nat} {x : α} (h : l[i]? = some x) : l.take (i + 1) = l.take i ++ [x] := by rw [List.take_add_one, h]; rfl
theorem f_ltext (v : Val) : ∀ (d : Nat) (g : GH), v.Ok g → WF d v.t → d ≤ 6 → TabG g → Tri Tryz.prog 13 [v.val] g [] fun v' g' m' => v' = .string (str v.t.txt) ∧ m' = [] := by
  induction v using Val.ind with
  | h kind int text items iA ic keys kA kc ih =>
    intro d g hv hw hd ht
    obtain ⟨hi, hk, hic, hkc, hb, hit⟩ := hv
    have hlen := txt_len _ d hw
    rw [Val.t_mk] at hw hlen ⊢
    have hbd : bnd d ≤ 1000000 := by
      have : ∀ e, e ≤ 6 → bnd e ≤ 1000000 := by decide
      exact this d hd
    refine Tri.cok [.val (Val.mk kind int text items iA ic keys kA kc).val] Tryz.func13 rfl Tryz.ntmps13 rfl rfl ?_
    rcases hw.inv with ⟨rfl, rfl, rfl, he, rfl⟩ | ⟨rfl, hi1, rfl, he, rfl⟩ | ⟨rfl, h1, h2, rfl, he, rfl⟩ | ⟨rfl, rfl, h6, he, rfl⟩ | hrest
    · refine vcC_ok _ _ _ _ _ ?_
      conv => whnf
      intro b1
      conv => whnf
      refine ⟨fun _ => ?_, fun q => absurd q (by decide)⟩
      conv => whnf
      exact .mk ⟨_, [], _, rfl, by decide, rfl, trivial, by rw [T.txt0] <;> rfl, rfl⟩
    · refine vcC_ok _ _ _ _ _ ?_
      conv => whnf
      intro b1
      conv => whnf
      refine ⟨fun q => absurd q (by decide), fun _ => ?_⟩
      conv => whnf
      refine ⟨fun _ => ?_, fun q => absurd q (by decide)⟩
      conv => whnf
      refine OOK.call [] rfl rfl rfl (by kernel_rfl) rfl (f_fbool g (int == 1)) (by decide) rfl ?_
      rintro v_ g1 m_ hg1 ⟨rfl, rfl⟩
      conv => whnf
      refine .mk ⟨_, [], _, rfl, by decide, rfl, trivial, ?_, rfl⟩
      rw [T.txt1]
      rcases hi1 with rfl | rfl <;> rfl
    · refine vcC_ok _ _ _ _ _ ?_
      conv => whnf
      intro b1
      conv => whnf
      refine ⟨fun q => absurd q (by decide), fun _ => ?_⟩
      conv => whnf
      refine ⟨fun q => absurd q (by decide), fun _ => ?_⟩
      conv => whnf
      refine ⟨fun _ => ?_, fun q => absurd q (by decide)⟩
      conv => whnf
      refine OOK.call [] rfl rfl rfl (by kernel_rfl) rfl (f_itoa g int h1 h2 ht) (by decide) rfl ?_
      rintro v_ g1 m_ hg1 ⟨rfl, rfl⟩
      conv => whnf
      exact .mk ⟨_, [], _, rfl, by decide, rfl, trivial, by rw [T.txt2] <;> rfl, rfl⟩
    · refine vcC_ok _ _ _ _ _ ?_
      conv => whnf
      intro b1
      conv => whnf
      refine ⟨fun q => absurd q (by decide), fun _ => ?_⟩
      conv => whnf
      refine ⟨fun q => absurd q (by decide), fun _ => ?_⟩
      conv => whnf
      refine ⟨fun q => absurd q (by decide), fun _ => ?_⟩
      conv => whnf
      refine ⟨fun _ => ?_, fun q => absurd q (by decide)⟩
      conv => whnf
      refine OOK.call [] rfl rfl rfl (by kernel_rfl) rfl (f_quote g text (by omega)) (by decide) rfl ?_
      rintro v_ g1 m_ hg1 ⟨rfl, rfl⟩
      conv => whnf
      exact .mk ⟨_, [], _, rfl, by decide, rfl, trivial, by rw [T.txt3] <;> rfl, rfl⟩
    obtain ⟨d', rfl, hkd, rfl, rfl, hmap, hl4, hwi⟩ : ∃ d', d = d' + 1 ∧ (kind = 4 ∨ kind = 5) ∧ int = 0 ∧ text = [] ∧ (kind = 5 → keys.length = items.length ∧ ∀ k ∈ keys, k.length ≤ 6) ∧ items.length ≤ 4 ∧ ∀ x ∈ items, WF d' x.t := by
      rcases hrest with ⟨d', rfl, rfl, rfl, rfl, rfl, hl, hw⟩ | ⟨d', rfl, rfl, rfl, rfl, hk, hl, hs, h6, hw⟩
      · exact ⟨d', rfl, .inl rfl, rfl, rfl, (fun h => by cases h), by simpa using hl, fun x hx => hw _ (List.mem_map_of_mem hx)⟩
      · exact ⟨d', rfl, .inr rfl, rfl, rfl, fun _ => ⟨by simpa using hk, h6⟩, by simpa using hl, fun x hx => hw _ (List.mem_map_of_mem hx)⟩
    obtain ⟨ps, hps⟩ : ∃ ps, ps = if kind = 5 then T.txtm (items.map Val.t) keys else T.txts (items.map Val.t) := ⟨_, rfl⟩
    have hpl : ps.length = items.length := by rw [hps]; split <;> simp [T.txtm_len, T.txts_len]
    have htx : (T.mk kind 0 [] (items.map Val.t) keys).txt = (if kind = 5 then [123] else [91]) ++ joinB kSep ps ++ (if kind = 5 then [125] else [93]) := by
      rcases hkd with rfl | rfl
      · rw [hps, T.txt4]; rfl
      · rw [hps, T.txt5]; rfl
    rw [htx] at hlen ⊢
    have hjl : (joinB kSep ps).length ≤ 1000000 := by rw [List.length_append, List.length_append] at hlen; omega
    have k0 : ¬ (kind == 0) = true := by rcases hkd with rfl | rfl <;> decide
    have k1 : ¬ (kind == 1) = true := by rcases hkd with rfl | rfl <;> decide
    have k2 : ¬ (kind == 2) = true := by rcases hkd with rfl | rfl <;> decide
    have k3 : ¬ (kind == 3) = true := by rcases hkd with rfl | rfl <;> decide
    refine COK.seq (vcC_ok _ _ _ _ _ ?_)
    conv => whnf
    intro b1
    conv => whnf
    refine COK.seq (vcC_ok _ _ _ _ _ ?_)
    conv => whnf
    refine ⟨fun q => absurd q k0, fun _ => ?_⟩
    conv => whnf
    refine ⟨fun q => absurd q k1, fun _ => ?_⟩
    conv => whnf
    refine ⟨fun q => absurd q k2, fun _ => ?_⟩
    conv => whnf
    refine ⟨fun q => absurd q k3, fun _ => ?_⟩
    conv => whnf
    have hxl : ∀ x ∈ items, x.t.txt.length ≤ bnd d' := fun x hx => txt_len _ d' (hwi x hx)
    have hbd' : bnd (d' + 1) = 4 * bnd d' + 134 := rfl
    refine COK.seq (vcC_ok _ _ _ _ _ ?_)
    conv => whnf
    refine COK.dummy 0 ?_
    refine COK.seq (COK.cut (α := Ps) (fun y => [(1, .own 0 0), (3, .val (.slice y.A ps.length y.c))]) (fun y => [⟨b1, .cells (Val.mk kind 0 [] items iA ic keys kA kc).cells 28 (0, 0)⟩, y.s]) (fun y _ => OwnAt 9 1 encK ps y.s y.A y.c) ?_ ?_)
    · refine vcC_ok _ _ _ _ _ ?_
      conv => whnf
      refine COK.loop (α := Ps) (fun y => [(1, .own 0 0), (3, .val (.slice y.A (ps.take y.i).length y.c)), (28, .val (.slice iA items.length ic)), (29, .val (.int .i64 items.length)), (30, .val (.int .i64 y.i))]) (fun y => [⟨b1, .cells (Val.mk kind 0 [] items iA ic keys kA kc).cells 28 (0, 0)⟩, y.s]) (fun y _ => y.i ≤ items.length ∧ OwnAt 9 1 encK (ps.take y.i) y.s y.A y.c) (fun y => items.length - y.i) ⟨0, ⟨0, .dead⟩, none, 0⟩ [0, 1] (Sub.of (by decide) rfl ⟨rfl, rfl, rfl, rfl, rfl, trivial⟩) ⟨Nat.zero_le _, .nil _ rfl⟩ ?_
      rintro ⟨i, so, A, c⟩ g1 hg1 ⟨hil, hO⟩
      simp only at hil hO
      dsimp only
      have hpi : (ps.take i).length = i := by rw [List.length_take]; omega
      by_cases hlt : i < items.length
      · obtain ⟨x, hx⟩ : ∃ x, items[i]? = some x := ⟨_, List.getElem?_eq_getElem hlt⟩
        have hmem := List.mem_of_getElem? hx
        have hxt := hxl x hmem
        have hT := ih x hmem d' g1 ((hit x hmem).mono hg1) (hwi x hmem) (by omega) (ht.mono hg1)
        obtain ⟨a, rfl, hra⟩ := (hi.mono hg1).at_ Val.len hx
        obtain ⟨xk, xi, xt, xl, xA, xc, xs, xB, xd⟩ := x
        refine vcC_ok _ _ _ _ _ ?_
        conv => whnf
        refine ⟨fun _ => ?_, fun h1 => absurd (of_decide_eq_false h1) (by omega)⟩
        conv => whnf
        refine ⟨⟨by omega, by omega⟩, ?_⟩
        conv => whnf
        refine OOK.yn (YN.loads rfl rfl rfl hra ?_)
        conv => whnf
        intro b5
        conv => whnf
        refine OOK.call [] rfl rfl rfl (by kernel_rfl) rfl (hT) (by decide) rfl ?_
        rintro v_ g2 m_ hg2 ⟨rfl, rfl⟩
        conv => whnf
        refine ⟨fun q5 => ?_, fun q5 => ?_⟩
        · obtain rfl : kind = 5 := by simpa using q5
          obtain ⟨hkl, h6⟩ := hmap rfl
          obtain ⟨k, hkk⟩ : ∃ k, keys[i]? = some k := ⟨_, List.getElem?_eq_getElem (by omega)⟩
          have hk6 := h6 k (List.mem_of_getElem? hkk)
          have hql := quote_len k
          have hpp : ps[i]? = some (quoteT k ++ [58, 32] ++ (Val.mk xk xi xt xl xA xc xs xB xd).t.txt) := by
            rw [hps, if_pos rfl]
            exact T.txtm_get _ _ _ _ _ (by rw [List.getElem?_map, hx]; rfl) hkk
          obtain ⟨w, hw'⟩ : ∃ w, w = (Val.mk xk xi xt xl xA xc xs xB xd).t.txt := ⟨_, rfl⟩
          rw [← hw'] at hpp hxt ⊢
          obtain ⟨ka, rfl, hrk⟩ := (hk.mono (hg1.trans hg2)).at_ encK_len hkk
          conv => whnf
          refine ⟨⟨by omega, by omega⟩, ?_⟩
          conv => whnf
          refine OOK.yn (YN.load rfl rfl rfl (v := .string (str k)) (Reads.at0 hrk) ?_)
          conv => whnf
          refine OOK.call [] rfl rfl rfl (by kernel_rfl) rfl (f_quote g2 k (by omega)) (by decide) rfl ?_
          rintro v_ g3 m_ hg3 ⟨rfl, rfl⟩
          conv => whnf
          rw [show (⟨#[58, 32]⟩ : ByteArray) = str [58, 32] from rfl, str_app]
          refine ⟨by rw [str_size, str_size]; show _ + 2 ≤ _; omega, ?_⟩
          conv => whnf
          rw [str_app]
          refine ⟨by rw [str_size, str_size]; simp only [List.length_append, List.length_cons, List.length_nil]; omega, ?_⟩
          conv => whnf
          intro nb
          conv => whnf
          refine OOK.appendRowB (quoteT k ++ [58, 32] ++ w) 1 encK_len rfl rfl rfl rfl (.inl ⟨_, rfl⟩) rfl (size := 1) (bytes := 16) rfl rfl rfl (by decide) rfl rfl hO
            (Src.own (i := 3) (q := 0) (cs := encK (quoteT k ++ [58, 32] ++ w)) (t := 9) (fr := (0, 0)) rfl rfl (fun j v hj => by simpa using hj)) (encK_one _) (by rw [hpi]; show (2 * (i + 1) + 1000) * 16 ≤ _; omega) ?_
          intro s' A' c' hO'
          conv => whnf
          rw [← take_get hpp] at hO'
          refine ⟨⟨i + 1, s', A', c'⟩, [0, 4], Sub.of (by decide) rfl ⟨rfl, ?_, rfl, rfl, int_eq (i64_in (by omega) (by omega)), trivial⟩, ⟨hlt, hO'⟩, by show items.length - (i + 1) < items.length - i; omega⟩
          show Value.slice A' ((ps.take i).length + 1) c' = Value.slice A' (ps.take (i + 1)).length c'
          rw [take_get hpp, List.length_append]; rfl
        · have hk4 : kind = 4 := by
            rcases hkd with h | h
            · exact h
            · rw [h] at q5; exact absurd q5 (by decide)
          have hpp : ps[i]? = some (Val.mk xk xi xt xl xA xc xs xB xd).t.txt := by
            rw [hps, if_neg (by rw [hk4]; decide), T.txts_get, List.getElem?_map, hx]
            rfl
          obtain ⟨w, hw'⟩ : ∃ w, w = (Val.mk xk xi xt xl xA xc xs xB xd).t.txt := ⟨_, rfl⟩
          rw [← hw'] at hpp hxt ⊢
          conv => whnf
          intro nb
          conv => whnf
          refine OOK.appendRowB w 1 encK_len rfl rfl rfl rfl (.inl ⟨_, rfl⟩) rfl (size := 1) (bytes := 16) rfl rfl rfl (by decide) rfl rfl hO
            (Src.own (i := 3) (q := 0) (cs := encK w) (t := 9) (fr := (0, 0)) rfl rfl (fun j v hj => by simpa using hj)) (encK_one _) (by rw [hpi]; show (2 * (i + 1) + 1000) * 16 ≤ _; omega) ?_
          intro s' A' c' hO'
          conv => whnf
          rw [← take_get hpp] at hO'
          refine ⟨⟨i + 1, s', A', c'⟩, [0, 4], Sub.of (by decide) rfl ⟨rfl, ?_, rfl, rfl, int_eq (i64_in (by omega) (by omega)), trivial⟩, ⟨hlt, hO'⟩, by show items.length - (i + 1) < items.length - i; omega⟩
          show Value.slice A' ((ps.take i).length + 1) c' = Value.slice A' (ps.take (i + 1)).length c'
          rw [take_get hpp, List.length_append]; rfl
      · have hid : i = items.length := by omega
        subst hid
        refine vcC_ok _ _ _ _ _ ?_
        conv => whnf
        refine ⟨fun h1 => absurd (of_decide_eq_true h1) (by omega), fun _ => ?_⟩
        conv => whnf
        have htk : ps.take items.length = ps := by rw [← hpl, List.take_length]
        rw [htk] at hO ⊢
        exact ⟨⟨0, so, A, c⟩, [0, 1], Sub.of (by decide) rfl ⟨rfl, rfl, trivial⟩, hO⟩
    rintro ⟨i, so, A, c⟩ g1 hg1 hO
    simp only at hO
    dsimp only
    refine COK.rowF 1 hO rfl fun g2 hg2 hr => ?_
    have hcc := hO.le
    refine vcC_ok _ _ _ _ _ ?_
    conv => whnf
    refine ⟨fun q5 => ?_, fun q5 => ?_⟩
    · obtain rfl : kind = 5 := by simpa using q5
      conv => whnf
      refine OOK.call [] rfl rfl rfl (by kernel_rfl) rfl (f_join g2 A c ps kSep hr (by omega) hcc (by decide) (by decide) (by omega)) (by decide) rfl ?_
      rintro v_ g3 m_ hg3 ⟨rfl, rfl⟩
      conv => whnf
      rw [show (⟨#[123]⟩ : ByteArray) = str [123] from rfl, str_app]
      refine ⟨by rw [str_size, str_size]; show 1 + _ ≤ _; omega, ?_⟩
      conv => whnf
      rw [show (⟨#[125]⟩ : ByteArray) = str [125] from rfl, str_app]
      refine ⟨by rw [str_size, str_size]; simp only [List.length_append, List.length_cons, List.length_nil]; omega, ?_⟩
      conv => whnf
      exact .mk ⟨_, [], _, rfl, by decide, rfl, trivial, rfl, rfl⟩
    · have hk4 : ¬ kind = 5 := by simpa using q5
      conv => whnf
      refine OOK.call [] rfl rfl rfl (by kernel_rfl) rfl (f_join g2 A c ps kSep hr (by omega) hcc (by decide) (by decide) (by omega)) (by decide) rfl ?_
      rintro v_ g3 m_ hg3 ⟨rfl, rfl⟩
      conv => whnf
      rw [show (⟨#[91]⟩ : ByteArray) = str [91] from rfl, str_app]
      refine ⟨by rw [str_size, str_size]; show 1 + _ ≤ _; omega, ?_⟩
      conv => whnf
      rw [show (⟨#[93]⟩ : ByteArray) = str [93] from rfl, str_app]
      refine ⟨by rw [str_size, str_size]; simp only [List.length_append, List.length_cons, List.length_nil]; omega, ?_⟩
      conv => whnf
      exact .mk ⟨_, [], _, rfl, by decide, rfl, trivial, by rw [if_neg hk4, if_neg hk4] <;> rfl, rfl⟩
end Go.Proofs.YthkfnmmbjoadbaaGreatDoor
