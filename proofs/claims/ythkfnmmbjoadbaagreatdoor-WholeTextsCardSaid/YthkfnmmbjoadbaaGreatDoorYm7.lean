/- WholeTexts: what the parser does, in plain words. 'stuck' is what the statement's texts never come to. -/
import Derived.Test.YthkfnmmbjoadbaaGreatDoorYm3
import Derived.Lib.AtoiAllCases
import Derived.Test.YthkfnmmbjoadbaaGreatDoorYm6
set_option linter.unusedVariables false
set_option linter.unusedSimpArgs false
set_option maxRecDepth 100000
namespace Go.Proofs.YthkfnmmbjoadbaaGreatDoor
open Go Go.SX

inductive Out (α : Type) where
  | ok (a : α)
  | short
  | stuck
def Out.bind {α β : Type} : Out α → (α → Out β) → Out β
  | .ok a, f => f a
  | .short, _ => .short
  | .stuck, _ => .stuck
theorem Out.ok_bind {α β : Type} (a : α) (f : α → Out β) : (Out.ok a).bind f = f a := rfl
theorem Out.bind_ok {α β : Type} {x : Out α} {f : α → Out β} {b : β} (h : x.bind f = .ok b) : ∃ a, x = .ok a ∧ f a = .ok b := by
  cases x with
  | ok a => exact ⟨a, rfl, h⟩
  | short => cases h
  | stuck => cases h
def isBlank (c : UInt8) : Bool := c == 32 || c == 9 || c == 10 || c == 13
def isDigit (c : UInt8) : Bool := decide (48 ≤ c.toNat) && decide (c.toNat ≤ 57)
def blanksP (s : List UInt8) (p : Nat) : Nat := p + ((s.drop p).takeWhile isBlank).length
def peekP (s : List UInt8) (p : Nat) : Out UInt8 := match s[p]? with
  | some c => .ok c
  | none => .short
def hexV (c : UInt8) : Option Nat := if 48 ≤ c.toNat ∧ c.toNat ≤ 57 then some (c.toNat - 48) else if 97 ≤ c.toNat ∧ c.toNat ≤ 102 then some (c.toNat - 87) else none
def hexP (s : List UInt8) (p : Nat) : Out Nat := (peekP s p).bind fun c => match hexV c with
  | some n => .ok n
  | none => .stuck
def escP (s : List UInt8) (p : Nat) : Out (UInt8 × Nat) :=
  (peekP s p).bind fun c => if c = 34 ∨ c = 92 then .ok (c, p + 1) else if c = 110 then .ok (10, p + 1) else if c = 116 then .ok (9, p + 1)
    else if c = 120 then (hexP s (p + 1)).bind fun a => (hexP s (p + 2)).bind fun b => .ok (UInt8.ofNat (a * 16 + b), p + 3) else .stuck
def litP (s : List UInt8) : Nat → Nat → List UInt8 → Out (List UInt8 × Nat)
  | 0, _, _ => .stuck
  | f + 1, p, acc => (peekP s p).bind fun c => if c = 34 then (if acc.length > 4096 then .stuck else .ok (acc, p + 1)) else if c.toNat < 32 ∨ 126 < c.toNat then .stuck
    else if c = 92 then (escP s (p + 1)).bind fun x => litP s f x.2 (acc ++ [x.1]) else litP s f (p + 1) (acc ++ [c])
def wordP (s : List UInt8) : List UInt8 → Nat → Out Nat
  | [], p => .ok p
  | c :: r, p => (peekP s p).bind fun x => if x = c then wordP s r (p + 1) else .stuck
def intP (s : List UInt8) (p : Nat) : Out (Int × Nat) :=
  (peekP s p).bind fun c => (if c = 45 then (peekP s (p + 1)).bind fun d => if d = 48 then .stuck else .ok (p + 1) else .ok p).bind fun q =>
    (peekP s q).bind fun d => if isDigit d = false then .stuck else if d = 48 ∧ 1 < ((s.drop q).takeWhile isDigit).length then .stuck else
      match Lib.atoiAll ((s.drop p).take (q + ((s.drop q).takeWhile isDigit).length - p)) with
      | .ok v => .ok (v, q + ((s.drop q).takeWhile isDigit).length)
      | _ => .stuck
def moreP (s : List UInt8) (close : UInt8) (p : Nat) : Out (Bool × Nat) :=
  (peekP s (blanksP s p)).bind fun c => if c = 44 then .ok (true, blanksP s p + 1) else if c = close then .ok (false, blanksP s p + 1) else .stuck
def emptyP (s : List UInt8) (close : UInt8) (p : Nat) : Out (Bool × Nat) :=
  (peekP s (blanksP s (p + 1))).bind fun c => if c = close then .ok (true, blanksP s (p + 1) + 1) else .ok (false, blanksP s (p + 1))
def lstP (V : Nat → Nat → Out (T × Nat × Nat)) (s : List UInt8) : Nat → Nat → Nat → List T → Out (List T × Nat × Nat)
  | 0, _, _, _ => .stuck
  | f + 1, p, cnt, acc => (V p cnt).bind fun x => (moreP s 93 x.2.1).bind fun m => if m.1 then lstP V s f m.2 x.2.2 (acc ++ [x.1]) else .ok (acc ++ [x.1], m.2, x.2.2)
def tabP (V : Nat → Nat → Out (T × Nat × Nat)) (s : List UInt8) : Nat → Nat → Nat → List (List UInt8 × T) → Out (List (List UInt8 × T) × Nat × Nat)
  | 0, _, _, _ => .stuck
  | f + 1, p, cnt, acc => (peekP s (blanksP s p)).bind fun c => if c ≠ 34 then .stuck else (litP s (s.length + 1) (blanksP s p + 1) []).bind fun k => if k.1 ∈ acc.map Prod.fst then .stuck else
    (peekP s (blanksP s k.2)).bind fun c => if c ≠ 58 then .stuck else (V (blanksP s k.2 + 1) cnt).bind fun x => (moreP s 125 x.2.1).bind fun m =>
      if m.1 then tabP V s f m.2 x.2.2 (acc ++ [(k.1, x.1)]) else .ok (acc ++ [(k.1, x.1)], m.2, x.2.2)
def insK (x : List UInt8 × T) : List (List UInt8 × T) → List (List UInt8 × T)
  | [] => [x]
  | y :: r => if x.1 < y.1 then x :: y :: r else y :: insK x r
def sortK (l : List (List UInt8 × T)) : List (List UInt8 × T) := l.foldr insK []
def valP : Nat → List UInt8 → Nat → Nat → Out (T × Nat × Nat)
  | 0, _, _, _ => .stuck
  | f + 1, s, p, cnt => (peekP s (blanksP s p)).bind fun c => if 1000 ≤ cnt then .stuck
    else if c = 110 then (wordP s kNull (blanksP s p)).bind fun q => .ok (T.null, q, cnt + 1)
    else if c = 116 then (wordP s kTrue (blanksP s p)).bind fun q => .ok (.mk 1 1 [] [] [], q, cnt + 1)
    else if c = 102 then (wordP s kFalse (blanksP s p)).bind fun q => .ok (.mk 1 0 [] [] [], q, cnt + 1)
    else if c = 34 then (litP s (s.length + 1) (blanksP s p + 1) []).bind fun k => .ok (.mk 3 0 k.1 [] [], k.2, cnt + 1)
    else if c = 91 then (emptyP s 93 (blanksP s p)).bind fun e => if e.1 then .ok (.mk 4 0 [] [] [], e.2, cnt + 1) else
      (lstP (valP f s) s (s.length + 1) e.2 (cnt + 1) []).bind fun l => .ok (.mk 4 0 [] l.1 [], l.2.1, l.2.2)
    else if c = 123 then (emptyP s 125 (blanksP s p)).bind fun e => if e.1 then .ok (.mk 5 0 [] [] [], e.2, cnt + 1) else
      (tabP (valP f s) s (s.length + 1) e.2 (cnt + 1) []).bind fun l => .ok (.mk 5 0 [] ((sortK l.1).map Prod.snd) ((sortK l.1).map Prod.fst), l.2.1, l.2.2)
    else (intP s (blanksP s p)).bind fun n => .ok (.mk 2 n.1 [] [] [], n.2, cnt + 1)
/-! ### where a part ends -/
theorem blanks_le (s : List UInt8) (p : Nat) : p ≤ blanksP s p := Nat.le_add_right _ _
theorem peek_ok {s : List UInt8} {p : Nat} {c : UInt8} (h : peekP s p = .ok c) : s[p]? = some c ∧ p < s.length := by
  unfold peekP at h
  split at h
  · rename_i c' hc
    cases h
    exact ⟨hc, (List.getElem?_eq_some_iff.1 hc).1⟩
  · cases h
theorem blanks_len {s : List UInt8} {p : Nat} (h : p ≤ s.length) : blanksP s p ≤ s.length := by
  have := (List.takeWhile_prefix isBlank (l := s.drop p)).length_le
  rw [List.length_drop] at this
  unfold blanksP
  omega
theorem hex_ok {s : List UInt8} {p n : Nat} (h : hexP s p = .ok n) : p < s.length ∧ n < 16 := by
  obtain ⟨c, hc, h⟩ := Out.bind_ok h
  refine ⟨(peek_ok hc).2, ?_⟩
  unfold hexV at h
  split at h
  · rename_i m hm
    cases h
    split at hm
    · cases hm; omega
    · split at hm
      · cases hm; omega
      · cases hm
  · cases h
theorem esc_ok {s : List UInt8} {p : Nat} {x : UInt8 × Nat} (h : escP s p = .ok x) : p < x.2 ∧ x.2 ≤ s.length := by
  obtain ⟨c, hc, h⟩ := Out.bind_ok h
  have := (peek_ok hc).2
  split at h
  · cases h; exact ⟨by show p < p + 1; omega, this⟩
  · split at h
    · cases h; exact ⟨by show p < p + 1; omega, this⟩
    · split at h
      · cases h; exact ⟨by show p < p + 1; omega, this⟩
      · split at h
        · obtain ⟨a, ha, h⟩ := Out.bind_ok h
          obtain ⟨b, hb, h⟩ := Out.bind_ok h
          have h1 := (hex_ok ha).1
          have h2 := (hex_ok hb).1
          cases h
          exact ⟨by show p < p + 3; omega, by show p + 3 ≤ _; omega⟩
        · cases h
theorem lit_ok {s : List UInt8} : ∀ (f p : Nat) (acc : List UInt8) (x : List UInt8 × Nat), litP s f p acc = .ok x → p < x.2 ∧ x.2 ≤ s.length ∧ x.1.length ≤ 4096
  | 0, p, acc, x, h => by cases h
  | f + 1, p, acc, x, h => by
    rw [litP] at h
    obtain ⟨c, hc, h⟩ := Out.bind_ok h
    have := (peek_ok hc).2
    split at h
    · split at h
      · cases h
      · rename_i h1
        cases h
        exact ⟨by show p < p + 1; omega, this, by show acc.length ≤ _; omega⟩
    · split at h
      · cases h
      · split at h
        · obtain ⟨b, hb, h⟩ := Out.bind_ok h
          have h1 := esc_ok hb
          have h2 := lit_ok f b.2 _ x h
          exact ⟨by omega, h2.2⟩
        · have h2 := lit_ok f (p + 1) _ x h
          exact ⟨by omega, h2.2⟩
theorem word_ok {s : List UInt8} : ∀ (w : List UInt8) (p q : Nat), wordP s w p = .ok q → q = p + w.length ∧ (w ≠ [] → q ≤ s.length)
  | [], p, q, h => by cases h; exact ⟨rfl, fun h => absurd rfl h⟩
  | c :: r, p, q, h => by
    rw [wordP] at h
    obtain ⟨x, hx, h⟩ := Out.bind_ok h
    have h0 := (peek_ok hx).2
    split at h
    · have h1 := word_ok r (p + 1) q h
      refine ⟨by rw [h1.1, List.length_cons]; omega, fun _ => ?_⟩
      by_cases hr : r = []
      · subst hr; rw [h1.1]; simp; omega
      · exact h1.2 hr
    · cases h
theorem int_ok {s : List UInt8} {p : Nat} {x : Int × Nat} (h : intP s p = .ok x) : p < x.2 ∧ x.2 ≤ s.length ∧ -9223372036854775808 ≤ x.1 ∧ x.1 ≤ 9223372036854775807 := by
  unfold intP at h
  obtain ⟨c, hc, h⟩ := Out.bind_ok h
  obtain ⟨q, hq, h⟩ := Out.bind_ok h
  obtain ⟨d, hd, h⟩ := Out.bind_ok h
  have hpq : p ≤ q := by
    split at hq
    · obtain ⟨d', hd', hq⟩ := Out.bind_ok hq
      split at hq
      · cases hq
      · cases hq; omega
    · cases hq; omega
  have hdl := peek_ok hd
  split at h
  · cases h
  · rename_i hdig
    split at h
    · cases h
    · split at h
      · rename_i v hv
        cases h
        have hb := Lib.atoiAll_bounds hv
        have hl := (List.takeWhile_prefix isDigit (l := s.drop q)).length_le
        rw [List.length_drop] at hl
        have hpos : 0 < ((s.drop q).takeWhile isDigit).length := by
          have e : s.drop q = d :: s.drop (q + 1) := by
            obtain ⟨h1, h2⟩ := List.getElem?_eq_some_iff.1 hdl.1
            rw [← h2]
            exact List.drop_eq_getElem_cons h1
          rw [e, List.takeWhile_cons, if_pos (by simpa using hdig)]
          simp
        refine ⟨by show p < q + _; omega, by show q + _ ≤ _; omega, hb⟩
      · cases h
theorem more_ok {s : List UInt8} {c : UInt8} {p : Nat} {x : Bool × Nat} (h : moreP s c p = .ok x) : p < x.2 ∧ x.2 ≤ s.length := by
  unfold moreP at h
  obtain ⟨a, ha, h⟩ := Out.bind_ok h
  have h1 := (peek_ok ha).2
  have h2 := blanks_le s p
  split at h
  · cases h; exact ⟨by show p < _ + 1; omega, h1⟩
  · split at h
    · cases h; exact ⟨by show p < _ + 1; omega, h1⟩
    · cases h
theorem empty_ok {s : List UInt8} {c : UInt8} {p : Nat} {x : Bool × Nat} (h : emptyP s c p = .ok x) : p < x.2 ∧ x.2 ≤ s.length := by
  unfold emptyP at h
  obtain ⟨a, ha, h⟩ := Out.bind_ok h
  have h1 := (peek_ok ha).2
  have h2 := blanks_le s (p + 1)
  split at h
  · cases h; exact ⟨by show p < _ + 1; omega, h1⟩
  · cases h; exact ⟨by show p < blanksP _ _; omega, by show blanksP _ _ ≤ _; omega⟩
def VOk (s : List UInt8) (V : Nat → Nat → Out (T × Nat × Nat)) : Prop := ∀ p cnt x, cnt ≤ 1000 → V p cnt = .ok x → p < x.2.1 ∧ x.2.1 ≤ s.length ∧ cnt < x.2.2 ∧ x.2.2 ≤ 1000
theorem lst_ok {s : List UInt8} {V : Nat → Nat → Out (T × Nat × Nat)} (hV : VOk s V) : ∀ (f p cnt : Nat) (acc : List T) (x : List T × Nat × Nat), cnt ≤ 1000 → lstP V s f p cnt acc = .ok x → p < x.2.1 ∧ x.2.1 ≤ s.length ∧ cnt < x.2.2 ∧ x.2.2 ≤ 1000
  | 0, p, cnt, acc, x, _, h => by cases h
  | f + 1, p, cnt, acc, x, hc, h => by
    rw [lstP] at h
    obtain ⟨a, ha, h⟩ := Out.bind_ok h
    obtain ⟨m, hm, h⟩ := Out.bind_ok h
    have h1 := hV p cnt a hc ha
    have h2 := more_ok hm
    split at h
    · have h3 := lst_ok hV f _ _ _ x h1.2.2.2 h
      omega
    · cases h
      exact ⟨by show p < m.2; omega, h2.2, h1.2.2⟩
theorem tab_ok {s : List UInt8} {V : Nat → Nat → Out (T × Nat × Nat)} (hV : VOk s V) : ∀ (f p cnt : Nat) (acc : List (List UInt8 × T)) (x : List (List UInt8 × T) × Nat × Nat), cnt ≤ 1000 → tabP V s f p cnt acc = .ok x → p < x.2.1 ∧ x.2.1 ≤ s.length ∧ cnt < x.2.2 ∧ x.2.2 ≤ 1000
  | 0, p, cnt, acc, x, _, h => by cases h
  | f + 1, p, cnt, acc, x, hc, h => by
    rw [tabP] at h
    obtain ⟨c0, hc0, h⟩ := Out.bind_ok h
    have b0 := blanks_le s p
    split at h
    · cases h
    obtain ⟨k, hk, h⟩ := Out.bind_ok h
    have h0 := lit_ok _ _ _ _ hk
    split at h
    · cases h
    obtain ⟨c1, hc1, h⟩ := Out.bind_ok h
    have b1 := blanks_le s k.2
    split at h
    · cases h
    obtain ⟨a, ha, h⟩ := Out.bind_ok h
    obtain ⟨m, hm, h⟩ := Out.bind_ok h
    have h1 := hV _ cnt a hc ha
    have h2 := more_ok hm
    split at h
    · have h3 := tab_ok hV f _ _ _ x h1.2.2.2 h
      omega
    · cases h
      exact ⟨by show p < m.2; omega, h2.2, h1.2.2⟩
theorem val_ok (s : List UInt8) : ∀ (f : Nat), VOk s (valP f s)
  | 0, p, cnt, x, _, h => by rw [valP] at h; cases h
  | f + 1, p, cnt, x, hc, h => by
    have hV := val_ok s f
    rw [valP] at h
    obtain ⟨c, hc0, h⟩ := Out.bind_ok h
    have b0 := blanks_le s p
    split at h
    · cases h
    rename_i hcnt
    split at h
    · obtain ⟨q, hq, h⟩ := Out.bind_ok h
      have h1 := word_ok _ _ _ hq
      cases h
      have h2 := h1.2 (by decide)
      have h3 : kNull.length = 4 := rfl
      exact ⟨by show p < q; omega, h2, by show cnt < cnt + 1; omega, by show cnt + 1 ≤ 1000; omega⟩
    split at h
    · obtain ⟨q, hq, h⟩ := Out.bind_ok h
      have h1 := word_ok _ _ _ hq
      cases h
      have h2 := h1.2 (by decide)
      have h3 : kTrue.length = 4 := rfl
      exact ⟨by show p < q; omega, h2, by show cnt < cnt + 1; omega, by show cnt + 1 ≤ 1000; omega⟩
    split at h
    · obtain ⟨q, hq, h⟩ := Out.bind_ok h
      have h1 := word_ok _ _ _ hq
      cases h
      have h2 := h1.2 (by decide)
      have h3 : kFalse.length = 5 := rfl
      exact ⟨by show p < q; omega, h2, by show cnt < cnt + 1; omega, by show cnt + 1 ≤ 1000; omega⟩
    split at h
    · obtain ⟨k, hk, h⟩ := Out.bind_ok h
      have h1 := lit_ok _ _ _ _ hk
      cases h
      exact ⟨by show p < k.2; omega, h1.2.1, by show cnt < cnt + 1; omega, by show cnt + 1 ≤ 1000; omega⟩
    split at h
    · obtain ⟨e, he, h⟩ := Out.bind_ok h
      have h1 := empty_ok he
      split at h
      · cases h
        exact ⟨by show p < e.2; omega, h1.2, by show cnt < cnt + 1; omega, by show cnt + 1 ≤ 1000; omega⟩
      · obtain ⟨l, hl, h⟩ := Out.bind_ok h
        have h2 := lst_ok hV _ _ _ _ _ (by omega) hl
        cases h
        exact ⟨by show p < l.2.1; omega, h2.2.1, by show cnt < l.2.2; omega, h2.2.2.2⟩
    split at h
    · obtain ⟨e, he, h⟩ := Out.bind_ok h
      have h1 := empty_ok he
      split at h
      · cases h
        exact ⟨by show p < e.2; omega, h1.2, by show cnt < cnt + 1; omega, by show cnt + 1 ≤ 1000; omega⟩
      · obtain ⟨l, hl, h⟩ := Out.bind_ok h
        have h2 := tab_ok hV _ _ _ _ _ (by omega) hl
        cases h
        exact ⟨by show p < l.2.1; omega, h2.2.1, by show cnt < l.2.2; omega, h2.2.2.2⟩
    · obtain ⟨n, hn, h⟩ := Out.bind_ok h
      have h1 := int_ok hn
      cases h
      exact ⟨by show p < n.2; omega, h1.2.1, by show cnt < cnt + 1; omega, by show cnt + 1 ≤ 1000; omega⟩
end Go.Proofs.YthkfnmmbjoadbaaGreatDoor
/- WholeTexts: the parser's small parts, walked. -/
set_option linter.unusedVariables false
set_option linter.unusedSimpArgs false
set_option maxRecDepth 100000
namespace Go.Proofs.YthkfnmmbjoadbaaGreatDoor
open Go Go.SX

def prS (b : Nat) (s : List UInt8) (p cnt : Nat) : Slot := ⟨b, .cells [.string (str s), .int .i64 p, .int .i64 cnt] 66 (0, 0)⟩
def fch (s : List UInt8) : List PanicEntry := [{ v := .iface 62 (.agg #[.int .i64 (s.length : Int), .int .i64 4]), recovered := false }]
def XS {α : Type} (s : List UInt8) (o : Out α) : List PanicEntry → Prop := fun ch => o = .short ∧ ch = fch s
theorem f_fail (g : GH) (b : Nat) (s : List UInt8) (p cnt : Nat) : TriE Tryz.prog 36 [.pointer (some ⟨b, 0, none⟩), .int .i64 (s.length : Int), .int .i64 4] g [prS b s p cnt] (fun ch => ch = fch s) fun v g' m' => False := by
  refine TriE.vc [.own 0 0, .val (.int .i64 (s.length : Int)), .val (.int .i64 4)] Tryz.func36 rfl Tryz.ntmps36 rfl rfl ?_
  conv => whnf
  refine OOK.panic rfl rfl rfl
theorem f_peek (g : GH) (b : Nat) (s : List UInt8) (p cnt : Nat) (hs : s.length ≤ 100000) : TriE Tryz.prog 60 [.pointer (some ⟨b, 0, none⟩)] g [prS b s p cnt] (XS s (peekP s p)) fun v g' m' => ∃ c, peekP s p = .ok c ∧ v = .int .u8 (c.toNat : Int) ∧ m' = [prS b s p cnt] := by
  refine TriE.vc [.own 0 0] Tryz.func60 rfl Tryz.ntmps60 rfl rfl ?_
  conv => whnf
  refine COK.draw [0] (by kernel_rfl) (by kernel_rfl) ?_
  conv => whnf
  rw [str_size]
  cases h : s[p]? with
  | none =>
    have hl : s.length ≤ p := List.getElem?_eq_none_iff.1 h
    refine ⟨fun _ => ?_, fun h1 => absurd (of_decide_eq_false h1) (by omega)⟩
    conv => whnf
    rw [str_size]
    refine OOK.callE [0] rfl rfl rfl (by kernel_rfl) rfl (f_fail g b s p cnt) (by decide) rfl (fun ch hch => ⟨by unfold peekP; rw [h], hch⟩) ?_
    rintro v_ g1 m_ hg1 hf
    exact hf.elim
  | some c =>
    have hl : p < s.length := (List.getElem?_eq_some_iff.1 h).1
    refine ⟨fun h1 => absurd (of_decide_eq_true h1) (by omega), fun _ => ?_⟩
    conv => whnf
    refine COK.draw [0] (by kernel_rfl) (by kernel_rfl) ?_
    conv => whnf
    refine ⟨⟨by omega, by rw [str_size]; omega⟩, ?_⟩
    conv => whnf
    rw [byteAt_str (i := (p : Int).toNat) h]
    exact .mk ⟨_, [0], _, rfl, by decide, rfl, ⟨rfl, trivial⟩, c, by unfold peekP; rw [h], rfl, rfl⟩
theorem drop_cons {s : List UInt8} {p : Nat} {c : UInt8} (h : s[p]? = some c) : s.drop p = c :: s.drop (p + 1) := by
  obtain ⟨h1, h2⟩ := List.getElem?_eq_some_iff.1 h
  rw [← h2]
  exact List.drop_eq_getElem_cons h1
theorem blanks_step {s : List UInt8} {p : Nat} {c : UInt8} (h : s[p]? = some c) (hb : isBlank c = true) : blanksP s (p + 1) = blanksP s p := by
  unfold blanksP
  rw [drop_cons h, List.takeWhile_cons, if_pos hb, List.length_cons]
  omega
theorem blanks_stop {s : List UInt8} {p : Nat} {c : UInt8} (h : s[p]? = some c) (hb : isBlank c = false) : blanksP s p = p := by
  unfold blanksP
  rw [drop_cons h, List.takeWhile_cons, if_neg (by simp [hb])]
  rfl
theorem blanks_end {s : List UInt8} {p : Nat} (h : s.length ≤ p) : blanksP s p = p := by
  unfold blanksP
  rw [List.drop_eq_nil_of_le h]
  rfl
theorem idx_blank (c : UInt8) : decide (idxB [32, 9, 10, 13] c ≥ 0) = isBlank c := by
  have h : ∀ n : Fin 256, decide (idxB [32, 9, 10, 13] (UInt8.ofNat n.val) ≥ 0) = isBlank (UInt8.ofNat n.val) := by decide +kernel
  have := h ⟨c.toNat, c.toNat_lt⟩
  simpa using this
theorem f_blanks (g : GH) (b : Nat) (s : List UInt8) (p cnt : Nat) (hs : s.length ≤ 100000) : Tri Tryz.prog 35 [.pointer (some ⟨b, 0, none⟩)] g [prS b s p cnt] fun v g' m' => v = .tuple #[] ∧ m' = [prS b s (blanksP s p) cnt] := by
  refine Tri.vc [.own 0 0] Tryz.func35 rfl Tryz.ntmps35 rfl rfl ?_
  conv => whnf
  refine COK.loop (α := Nat) (fun q => [(0, .own 0 0)]) (fun q => [prS b s q cnt]) (fun q _ => blanksP s q = blanksP s p) (fun q => s.length - q) p [0] (Sub.of (by decide) rfl ⟨rfl, trivial⟩) rfl ?_
  intro q g1 hg1 hq
  refine vcC_ok _ _ _ _ _ ?_
  conv => whnf
  refine COK.draw [0] (by kernel_rfl) (by kernel_rfl) ?_
  conv => whnf
  rw [str_size]
  cases h : s[q]? with
  | none =>
    have hl : s.length ≤ q := List.getElem?_eq_none_iff.1 h
    refine ⟨fun h1 => absurd (of_decide_eq_true h1) (by omega), fun _ => ?_⟩
    conv => whnf
    rw [← hq, blanks_end hl]
    exact .mk ⟨_, [0], _, rfl, by decide, rfl, ⟨rfl, trivial⟩, rfl, rfl⟩
  | some c =>
    have hl : q < s.length := (List.getElem?_eq_some_iff.1 h).1
    refine ⟨fun _ => ?_, fun h1 => absurd (of_decide_eq_false h1) (by omega)⟩
    conv => whnf
    refine ⟨⟨by omega, by rw [str_size]; omega⟩, ?_⟩
    conv => whnf
    rw [byteAt_str (i := (q : Int).toNat) h]
    refine OOK.call [] rfl rfl rfl (by kernel_rfl) rfl (f_index g1 [32, 9, 10, 13] c) (by decide) rfl ?_
    rintro v_ g2 m_ hg2 ⟨rfl, rfl⟩
    conv => whnf
    refine ⟨⟨rfl, trivial⟩, ?_⟩
    conv => whnf
    have hb := idx_blank c
    cases hbl : isBlank c with
    | true =>
      rw [hbl] at hb
      rw [hb]
      refine ⟨fun _ => ?_, fun h1 => by cases h1⟩
      conv => whnf
      refine ⟨q + 1, [0], Sub.of (by decide) ?_ ⟨rfl, trivial⟩, by rw [blanks_step h hbl]; exact hq, by omega⟩
      have e : IntKind.i64.wrap ((q : Int) + 1) = ((q + 1 : Nat) : Int) := i64_in (by omega) (by omega)
      rw [e]
      rfl
    | false =>
      rw [hbl] at hb
      rw [hb]
      refine ⟨fun h1 => (by cases h1), fun _ => ?_⟩
      conv => whnf
      rw [← hq, blanks_stop h hbl]
      exact .mk ⟨_, [0], _, rfl, by decide, rfl, ⟨rfl, trivial⟩, rfl, rfl⟩
theorem u8k {x k : UInt8} (h : (x.toNat : Int) = (k.toNat : Int)) : x = k := UInt8.toNat_inj.1 (Int.ofNat.inj h)
theorem f_digit (g : GH) (c : UInt8) : Tri Tryz.prog 62 [.int .u8 (c.toNat : Int)] g [] fun v g' m' => v = .bool (isDigit c) ∧ m' = [] := by
  refine Tri.vc [.val (.int .u8 (c.toNat : Int))] Tryz.func62 rfl Tryz.ntmps62 rfl rfl ?_
  conv => whnf
  unfold isDigit
  refine ⟨fun q => ?_, fun q => ?_⟩
  · conv => whnf
    have h1 := of_decide_eq_true q
    exact .mk ⟨_, [], _, rfl, by decide, rfl, trivial, by rw [decide_eq_true (show 48 ≤ c.toNat by omega), Bool.true_and] <;> exact congrArg Value.bool (decide_eq_decide.2 (by omega)), rfl⟩
  · conv => whnf
    have h1 := of_decide_eq_false q
    exact .mk ⟨_, [], _, rfl, by decide, rfl, trivial, by rw [decide_eq_false (show ¬ 48 ≤ c.toNat by omega), Bool.false_and] <;> rfl, rfl⟩
theorem f_next (g : GH) (b : Nat) (s : List UInt8) (p cnt : Nat) (hs : s.length ≤ 100000) : TriE Tryz.prog 103 [.pointer (some ⟨b, 0, none⟩)] g [prS b s p cnt] (XS s (peekP s p)) fun v g' m' => ∃ c, peekP s p = .ok c ∧ v = .int .u8 (c.toNat : Int) ∧ m' = [prS b s (p + 1) cnt] := by
  refine TriE.vc [.own 0 0] Tryz.func103 rfl Tryz.ntmps103 rfl rfl ?_
  conv => whnf
  refine OOK.callE [0] rfl rfl rfl (by kernel_rfl) rfl (f_peek g b s p cnt hs) (by decide) rfl (fun ch h => h) ?_
  rintro v_ g1 m_ hg1 ⟨c, hc, rfl, rfl⟩
  conv => whnf
  have hl := (peek_ok hc).2
  have e : IntKind.i64.wrap ((p : Int) + 1) = ((p + 1 : Nat) : Int) := i64_in (by omega) (by omega)
  rw [e]
  exact .mk ⟨_, [0], _, rfl, by decide, rfl, ⟨rfl, trivial⟩, c, hc, rfl, rfl⟩
theorem f_empty (g : GH) (b : Nat) (s : List UInt8) (c : UInt8) (p cnt : Nat) (hs : s.length ≤ 100000) (hp : p ≤ s.length) : TriE Tryz.prog 99 [.pointer (some ⟨b, 0, none⟩), .int .u8 (c.toNat : Int)] g [prS b s p cnt] (XS s (emptyP s c p)) fun v g' m' => ∃ x, emptyP s c p = .ok x ∧ v = .bool x.1 ∧ m' = [prS b s x.2 cnt] := by
  obtain ⟨W, hW⟩ : ∃ W, W = emptyP s c p := ⟨_, rfl⟩
  rw [← hW]
  unfold emptyP at hW
  refine TriE.vc [.own 0 0, .val (.int .u8 (c.toNat : Int))] Tryz.func99 rfl Tryz.ntmps99 rfl rfl ?_
  conv => whnf
  have e : IntKind.i64.wrap ((p : Int) + 1) = ((p + 1 : Nat) : Int) := i64_in (by omega) (by omega)
  rw [e]
  refine OOK.call [0] rfl rfl rfl (by kernel_rfl) rfl (f_blanks g b s (p + 1) cnt hs) (by decide) rfl ?_
  rintro v_ g1 m_ hg1 ⟨rfl, rfl⟩
  conv => whnf
  refine OOK.callE [0] rfl rfl rfl (by kernel_rfl) rfl (f_peek g1 b s (blanksP s (p + 1)) cnt hs) (by decide) rfl (fun ch h => ⟨by rw [hW, h.1]; rfl, h.2⟩) ?_
  rintro v_ g2 m_ hg2 ⟨x, hx, rfl, rfl⟩
  conv => whnf
  have hl := (peek_ok hx).2
  rw [hx] at hW
  have e2 : IntKind.i64.wrap ((blanksP s (p + 1) : Nat) + 1) = ((blanksP s (p + 1) + 1 : Nat) : Int) := i64_in (by omega) (by omega)
  refine ⟨fun q => ?_, fun q => ?_⟩
  · have hxc : x ≠ c := fun h => by rw [h] at q; simp at q
    rw [Out.ok_bind, if_neg hxc] at hW
    conv => whnf
    exact .mk ⟨_, [0], _, rfl, by decide, rfl, ⟨rfl, trivial⟩, _, hW, rfl, rfl⟩
  · have hxc : x = c := u8k (by simpa using q)
    rw [Out.ok_bind, if_pos hxc] at hW
    conv => whnf
    rw [e2]
    exact .mk ⟨_, [0], _, rfl, by decide, rfl, ⟨rfl, trivial⟩, _, hW, rfl, rfl⟩
theorem f_more (g : GH) (b : Nat) (s : List UInt8) (c : UInt8) (p cnt : Nat) (hs : s.length ≤ 100000) (hp : p ≤ s.length) (hne : moreP s c p ≠ .stuck) : TriE Tryz.prog 100 [.pointer (some ⟨b, 0, none⟩), .int .u8 (c.toNat : Int)] g [prS b s p cnt] (XS s (moreP s c p)) fun v g' m' => ∃ x, moreP s c p = .ok x ∧ v = .bool x.1 ∧ m' = [prS b s x.2 cnt] := by
  obtain ⟨W, hW⟩ : ∃ W, W = moreP s c p := ⟨_, rfl⟩
  rw [← hW] at hne ⊢
  unfold moreP at hW
  refine TriE.vc [.own 0 0, .val (.int .u8 (c.toNat : Int))] Tryz.func100 rfl Tryz.ntmps100 rfl rfl ?_
  conv => whnf
  refine OOK.call [0] rfl rfl rfl (by kernel_rfl) rfl (f_blanks g b s p cnt hs) (by decide) rfl ?_
  rintro v_ g1 m_ hg1 ⟨rfl, rfl⟩
  conv => whnf
  refine OOK.callE [0] rfl rfl rfl (by kernel_rfl) rfl (f_peek g1 b s (blanksP s p) cnt hs) (by decide) rfl (fun ch h => ⟨by rw [hW, h.1]; rfl, h.2⟩) ?_
  rintro v_ g2 m_ hg2 ⟨x, hx, rfl, rfl⟩
  conv => whnf
  have hl := (peek_ok hx).2
  rw [hx] at hW
  have e2 : IntKind.i64.wrap ((blanksP s p : Nat) + 1) = ((blanksP s p + 1 : Nat) : Int) := i64_in (by omega) (by omega)
  rw [Out.ok_bind] at hW
  refine ⟨fun q => ?_, fun q => ?_⟩
  · rw [if_pos (u8k (k := 44) (eq_of_beq q))] at hW
    conv => whnf
    rw [e2]
    exact .mk ⟨_, [0], _, rfl, by decide, rfl, ⟨rfl, trivial⟩, _, hW, rfl, rfl⟩
  · rw [if_neg (fun h : x = 44 => by rw [h] at q; cases q)] at hW
    conv => whnf
    refine ⟨fun q => ?_, fun q => ?_⟩
    · rw [if_pos (u8k (eq_of_beq q))] at hW
      conv => whnf
      rw [e2]
      exact .mk ⟨_, [0], _, rfl, by decide, rfl, ⟨rfl, trivial⟩, _, hW, rfl, rfl⟩
    · rw [if_neg (fun h : x = c => by rw [h] at q; simp at q)] at hW
      exact absurd hW hne
end Go.Proofs.YthkfnmmbjoadbaaGreatDoor
/- WholeTexts: the parser's words, escapes and literals, walked. -/
set_option linter.unusedVariables false
set_option linter.unusedSimpArgs false
set_option maxRecDepth 100000
namespace Go.Proofs.YthkfnmmbjoadbaaGreatDoor
open Go Go.SX

theorem f_wordP (g : GH) (b : Nat) (s w : List UInt8) (p cnt : Nat) (hs : s.length ≤ 100000) (hp : p ≤ s.length) (hw : w.length ≤ 10) (hne : wordP s w p ≠ .stuck) : TriE Tryz.prog 63 [.pointer (some ⟨b, 0, none⟩), .string (str w)] g [prS b s p cnt] (XS s (wordP s w p)) fun v g' m' => ∃ q, wordP s w p = .ok q ∧ v = .tuple #[] ∧ m' = [prS b s q cnt] := by
  obtain ⟨W, hW⟩ : ∃ W, W = wordP s w p := ⟨_, rfl⟩
  rw [← hW] at hne ⊢
  refine TriE.vc [.own 0 0, .val (.string (str w))] Tryz.func63 rfl Tryz.ntmps63 rfl rfl ?_
  conv => whnf
  rw [str_size]
  refine COK.loop (α := Nat) (fun i => [(0, .own 0 0), (1, .val (.string (str w))), (6, .val (.int .i64 w.length)), (7, .val (.int .i64 i))]) (fun i => [prS b s (p + i) cnt]) (fun i _ => i ≤ w.length ∧ p + i ≤ s.length ∧ W = wordP s (w.drop i) (p + i)) (fun i => w.length - i) 0 [0] (Sub.of (by decide) rfl ⟨rfl, rfl, rfl, rfl, trivial⟩) ⟨Nat.zero_le _, hp, hW⟩ ?_
  rintro i g1 hg1 ⟨hi, hpi, hW⟩
  by_cases hlt : i < w.length
  · obtain ⟨c, hc⟩ : ∃ c, w[i]? = some c := ⟨_, List.getElem?_eq_getElem hlt⟩
    rw [drop_cons hc, wordP] at hW
    refine vcC_ok _ _ _ _ _ ?_
    conv => whnf
    refine ⟨fun _ => ?_, fun h1 => absurd (of_decide_eq_false h1) (by omega)⟩
    conv => whnf
    refine COK.draw [0] (by kernel_rfl) (by kernel_rfl) ?_
    conv => whnf
    refine ⟨⟨by omega, by rw [str_size]; omega⟩, ?_⟩
    conv => whnf
    rw [byteAt_str (i := (i : Int).toNat) hc]
    refine OOK.callE [0] rfl rfl rfl (by kernel_rfl) rfl (f_peek g1 b s (p + i) cnt hs) (by decide) rfl (fun ch h => ⟨by rw [hW, h.1]; rfl, h.2⟩) ?_
    rintro v_ g2 m_ hg2 ⟨x, hx, rfl, rfl⟩
    have hl := (peek_ok hx).2
    rw [hx, Out.ok_bind] at hW
    conv => whnf
    refine ⟨⟨rfl, trivial⟩, ?_⟩
    conv => whnf
    refine ⟨fun q => ?_, fun q => ?_⟩
    · rw [if_neg (fun h : x = c => by rw [h] at q; simp at q)] at hW
      exact absurd hW hne
    · rw [if_pos (u8k (by simpa using q) : x = c)] at hW
      conv => whnf
      have e : IntKind.i64.wrap (((p + i : Nat) : Int) + 1) = ((p + (i + 1) : Nat) : Int) := i64_in (by omega) (by omega)
      rw [e]
      exact ⟨i + 1, [0], Sub.of (by decide) rfl ⟨rfl, rfl, rfl, int_eq (i64_in (by omega) (by omega)), trivial⟩, ⟨hlt, by omega, hW⟩, by omega⟩
  · have hid : i = w.length := by omega
    subst hid
    rw [List.drop_length, wordP] at hW
    refine vcC_ok _ _ _ _ _ ?_
    conv => whnf
    refine ⟨fun h1 => absurd (of_decide_eq_true h1) (by omega), fun _ => ?_⟩
    conv => whnf
    exact .mk ⟨_, [0], _, rfl, by decide, rfl, ⟨rfl, trivial⟩, _, hW, rfl, rfl⟩
def kHex : List UInt8 := [48, 49, 50, 51, 52, 53, 54, 55, 56, 57, 97, 98, 99, 100, 101, 102]
theorem idx_hex (c : UInt8) : idxB kHex c = match hexV c with | some n => (n : Int) | none => -1 := by
  have h : ∀ n : Fin 256, idxB kHex (UInt8.ofNat n.val) = match hexV (UInt8.ofNat n.val) with | some n => (n : Int) | none => -1 := by decide +kernel
  have := h ⟨c.toNat, c.toNat_lt⟩
  simpa using this
theorem hex_or : ∀ a b : Fin 16, IntKind.i64.wrap ↑(BitVec.ofInt IntKind.i64.bits (IntKind.i64.wrap ((a.val : Int) * 2 ^ min (Int.toNat 4) IntKind.i64.bits)) ||| BitVec.ofInt IntKind.i64.bits (b.val : Int)).toNat = ((a.val * 16 + b.val : Nat) : Int) := by decide +kernel
theorem f_escape (g : GH) (b : Nat) (s : List UInt8) (p cnt : Nat) (hs : s.length ≤ 100000) (hp : p ≤ s.length) (hne : escP s p ≠ .stuck) : TriE Tryz.prog 98 [.pointer (some ⟨b, 0, none⟩)] g [prS b s p cnt] (XS s (escP s p)) fun v g' m' => ∃ x, escP s p = .ok x ∧ v = .int .u8 (x.1.toNat : Int) ∧ m' = [prS b s x.2 cnt] := by
  obtain ⟨W, hW⟩ : ∃ W, W = escP s p := ⟨_, rfl⟩
  rw [← hW] at hne ⊢
  unfold escP at hW
  refine TriE.vc [.own 0 0] Tryz.func98 rfl Tryz.ntmps98 rfl rfl ?_
  conv => whnf
  refine OOK.callE [0] rfl rfl rfl (by kernel_rfl) rfl (f_peek g b s p cnt hs) (by decide) rfl (fun ch h => ⟨by rw [hW, h.1]; rfl, h.2⟩) ?_
  rintro v_ g1 m_ hg1 ⟨c, hc, rfl, rfl⟩
  conv => whnf
  have hl := (peek_ok hc).2
  rw [hc, Out.ok_bind] at hW
  have e1 : IntKind.i64.wrap ((p : Int) + 1) = ((p + 1 : Nat) : Int) := i64_in (by omega) (by omega)
  by_cases h34 : c = 34
  · subst h34
    rw [if_pos (.inl rfl)] at hW
    refine ⟨fun _ => ?_, (by intro q; cases q)⟩
    conv => whnf
    refine ⟨fun _ => ?_, (by intro q; cases q)⟩
    conv => whnf
    rw [e1]
    exact .mk ⟨_, [0], _, rfl, by decide, rfl, ⟨rfl, trivial⟩, _, hW, rfl, rfl⟩
  by_cases h92 : c = 92
  · subst h92
    rw [if_pos (.inr rfl)] at hW
    refine ⟨(by intro q; cases q), fun _ => ?_⟩
    conv => whnf
    refine ⟨fun _ => ?_, (by intro q; cases q)⟩
    conv => whnf
    rw [e1]
    exact .mk ⟨_, [0], _, rfl, by decide, rfl, ⟨rfl, trivial⟩, _, hW, rfl, rfl⟩
  rw [if_neg (fun h => h.elim h34 h92)] at hW
  refine ⟨fun q => absurd (u8k (k := 34) (eq_of_beq q)) h34, fun _ => ?_⟩
  conv => whnf
  refine ⟨fun q => absurd (u8k (k := 92) (eq_of_beq q)) h92, fun _ => ?_⟩
  conv => whnf
  by_cases h110 : c = 110
  · subst h110
    rw [if_pos rfl] at hW
    refine ⟨fun _ => ?_, (by intro q; cases q)⟩
    conv => whnf
    rw [e1]
    exact .mk ⟨_, [0], _, rfl, by decide, rfl, ⟨rfl, trivial⟩, _, hW, rfl, rfl⟩
  rw [if_neg h110] at hW
  refine ⟨fun q => absurd (u8k (k := 110) (eq_of_beq q)) h110, fun _ => ?_⟩
  conv => whnf
  by_cases h116 : c = 116
  · subst h116
    rw [if_pos rfl] at hW
    refine ⟨fun _ => ?_, (by intro q; cases q)⟩
    conv => whnf
    rw [e1]
    exact .mk ⟨_, [0], _, rfl, by decide, rfl, ⟨rfl, trivial⟩, _, hW, rfl, rfl⟩
  rw [if_neg h116] at hW
  refine ⟨fun q => absurd (u8k (k := 116) (eq_of_beq q)) h116, fun _ => ?_⟩
  conv => whnf
  by_cases h120 : c = 120
  rotate_left
  · rw [if_neg h120] at hW
    exact absurd hW hne
  subst h120
  rw [if_pos rfl] at hW
  refine ⟨fun _ => ?_, (by intro q; cases q)⟩
  conv => whnf
  rw [e1]
  refine COK.loop (α := Nat × Nat) (fun x => [(0, .own 0 0), (4, .val (.int .i64 (x.2 : Nat))), (47, .val (.int .i64 (x.1 : Nat)))]) (fun x => [prS b s (p + 1 + x.1) cnt]) (fun x _ => (x.1 = 0 ∧ x.2 = 0) ∨ (x.1 = 1 ∧ hexP s (p + 1) = .ok x.2) ∨ (x.1 = 2 ∧ ∃ a b', hexP s (p + 1) = .ok a ∧ hexP s (p + 2) = .ok b' ∧ x.2 = a * 16 + b')) (fun x => 3 - x.1) (0, 0) [0] (Sub.of (by decide) rfl ⟨rfl, rfl, rfl, trivial⟩) (.inl ⟨rfl, rfl⟩) ?_
  rintro ⟨i, n⟩ g2 hg2 hI
  have key : ∀ (hi : i < 2), (hexP s (p + 1 + i) = .short → W = .short) ∧ hexP s (p + 1 + i) ≠ .stuck ∧ n < 16 := by
    intro hi
    rcases hI with ⟨h1, h2⟩ | ⟨h1, h2⟩ | ⟨h1, _⟩
    · simp only at h1 h2
      subst h1 h2
      exact ⟨fun h => by rw [hW, Nat.add_zero] at *; rw [h]; rfl, fun h => hne (by rw [hW]; rw [Nat.add_zero] at h; rw [h]; rfl), by omega⟩
    · simp only at h1 h2
      subst h1
      rw [h2, Out.ok_bind] at hW
      exact ⟨fun h => by rw [hW]; rw [show p + 1 + 1 = p + 2 from rfl] at h; rw [h]; rfl, fun h => hne (by rw [hW]; rw [show p + 1 + 1 = p + 2 from rfl] at h; rw [h]; rfl), (hex_ok h2).2⟩
    · simp only at h1; omega
  dsimp only at hI ⊢
  by_cases hi : i < 2
  · obtain ⟨k1, k2, k3⟩ := key hi
    refine vcC_ok _ _ _ _ _ ?_
    conv => whnf
    refine ⟨fun _ => ?_, fun h1 => absurd (of_decide_eq_false h1) (by show ¬ ¬ ((i : Int) < 2); omega)⟩
    conv => whnf
    refine OOK.callE [0] rfl rfl rfl (by kernel_rfl) rfl (f_peek g2 b s (p + 1 + i) cnt hs) (by decide) rfl (fun ch h => ⟨k1 (by unfold hexP; rw [h.1]; rfl), h.2⟩) ?_
    rintro v_ g3 m_ hg3 ⟨x, hx, rfl, rfl⟩
    conv => whnf
    refine OOK.call [] rfl rfl rfl (by kernel_rfl) rfl (f_index g3 kHex x) (by decide) rfl ?_
    rintro v_ g4 m_ hg4 ⟨rfl, rfl⟩
    conv => whnf
    have hl := (peek_ok hx).2
    rw [idx_hex]
    cases hv : hexV x with
    | none => exact absurd (by unfold hexP; rw [hx, Out.ok_bind, hv]) k2
    | some m =>
      have hh : hexP s (p + 1 + i) = .ok m := by unfold hexP; rw [hx, Out.ok_bind, hv]
      have hm := (hex_ok hh).2
      refine ⟨fun h1 => absurd (of_decide_eq_true h1) (by show ¬ ((m : Int) < 0); omega), fun _ => ?_⟩
      conv => whnf
      have e2 : IntKind.i64.wrap (((p + 1 + i : Nat) : Int) + 1) = ((p + 1 + (i + 1) : Nat) : Int) := i64_in (by omega) (by omega)
      have e3 := hex_or ⟨n, k3⟩ ⟨m, hm⟩
      simp only at e3
      rw [e2]
      refine ⟨(i + 1, n * 16 + m), [0], Sub.of (by decide) rfl ⟨rfl, int_eq e3, int_eq (i64_in (by omega) (by omega)), trivial⟩, ?_, by show 3 - (i + 1) < 3 - i; omega⟩
      rcases hI with ⟨h1, h2⟩ | ⟨h1, h2⟩ | ⟨h1, _⟩
      · subst h1 h2
        exact .inr (.inl ⟨rfl, by rw [Nat.add_zero] at hh; rw [hh]; exact congrArg Out.ok (by show m = 0 * 16 + m; omega)⟩)
      · subst h1
        exact .inr (.inr ⟨rfl, n, m, h2, hh, rfl⟩)
      · omega
  · obtain ⟨h1, a, b', ha, hb, hn⟩ : i = 2 ∧ ∃ a b', hexP s (p + 1) = .ok a ∧ hexP s (p + 2) = .ok b' ∧ n = a * 16 + b' := by
      rcases hI with ⟨h1, _⟩ | ⟨h1, _⟩ | h
      · omega
      · omega
      · exact h
    subst h1
    rw [ha, Out.ok_bind, hb, Out.ok_bind] at hW
    have h16 := (hex_ok ha).2
    have h17 := (hex_ok hb).2
    refine vcC_ok _ _ _ _ _ ?_
    conv => whnf
    refine ⟨fun h1 => absurd (of_decide_eq_true h1) (by show ¬ ((2 : Int) < 2); omega), fun _ => ?_⟩
    conv => whnf
    have e4 : IntKind.u8.wrap (n : Int) = ((UInt8.ofNat (a * 16 + b')).toNat : Int) := by
      rw [u8w, hn, UInt8.toNat_ofNat_of_lt' (by show _ < 256; omega)]
      omega
    rw [e4]
    exact .mk ⟨_, [0], _, rfl, by decide, rfl, ⟨rfl, trivial⟩, _, hW, rfl, rfl⟩
end Go.Proofs.YthkfnmmbjoadbaaGreatDoor
/- WholeTexts: the parser's literals, walked. -/
set_option linter.unusedVariables false
set_option linter.unusedSimpArgs false
set_option maxRecDepth 100000
namespace Go.Proofs.YthkfnmmbjoadbaaGreatDoor
open Go Go.SX

structure Li where
  p : Nat
  f : Nat
  acc : List UInt8
  s : Slot
  A : Option Addr
  c : Nat
theorem f_lit (g : GH) (b : Nat) (s : List UInt8) (p cnt : Nat) (hs : s.length ≤ 100000) (hp : p < s.length) (hne : litP s (s.length + 1) (p + 1) [] ≠ .stuck) : TriE Tryz.prog 67 [.pointer (some ⟨b, 0, none⟩)] g [prS b s p cnt] (XS s (litP s (s.length + 1) (p + 1) [])) fun v g' m' => ∃ x, litP s (s.length + 1) (p + 1) [] = .ok x ∧ v = .string (str x.1) ∧ m' = [prS b s x.2 cnt] := by
  obtain ⟨W, hW⟩ : ∃ W, W = litP s (s.length + 1) (p + 1) [] := ⟨_, rfl⟩
  rw [← hW] at hne ⊢
  refine TriE.cok [.own 0 0] Tryz.func67 rfl Tryz.ntmps67 rfl rfl ?_
  refine COK.dummy 0 ?_
  have e1 : IntKind.i64.wrap ((p : Int) + 1) = ((p + 1 : Nat) : Int) := i64_in (by omega) (by omega)
  refine vcC_ok _ _ _ _ _ ?_
  conv => whnf
  rw [e1]
  refine COK.loop (α := Li) (fun y => [(0, .own 0 0), (3, .val (.int .i64 p)), (4, .val (.slice y.A y.acc.length y.c))]) (fun y => [prS b s y.p cnt, y.s]) (fun y _ => OwnAt 5 1 encB y.acc y.s y.A y.c ∧ W = litP s y.f y.p y.acc ∧ y.p ≤ s.length ∧ s.length < y.p + y.f ∧ y.acc.length ≤ y.p) (fun y => y.f) ⟨p + 1, s.length + 1, [], ⟨0, .dead⟩, none, 0⟩ [0, 1] (Sub.of (by decide) rfl ⟨rfl, rfl, rfl, trivial⟩) ⟨.nil 0 rfl, hW, by show p + 1 ≤ _; omega, by show _ < p + 1 + (_ + 1); omega, Nat.zero_le _⟩ ?_
  rintro ⟨q, f, acc, sl, A, c⟩ g1 hg1 ⟨hO, hW, hq, hf, hal⟩
  dsimp only at hO hW hq hf hal ⊢
  obtain ⟨f, rfl⟩ : ∃ x, f = x + 1 := ⟨f - 1, by omega⟩
  rw [litP] at hW
  refine vcC_ok _ _ _ _ _ ?_
  conv => whnf
  refine OOK.callE [0] rfl rfl rfl (by kernel_rfl) rfl (f_peek g1 b s q cnt hs) (by decide) rfl (fun ch h => ⟨by rw [hW, h.1]; rfl, h.2⟩) ?_
  rintro v_ g2 m_ hg2 ⟨x, hx, rfl, rfl⟩
  conv => whnf
  have hl := (peek_ok hx).2
  rw [hx, Out.ok_bind] at hW
  have e2 : IntKind.i64.wrap ((q : Int) + 1) = ((q + 1 : Nat) : Int) := i64_in (by omega) (by omega)
  by_cases h34 : x = 34
  · rw [if_pos h34] at hW
    refine ⟨fun _ => ?_, fun q => by rw [h34] at q; cases q⟩
    conv => whnf
    rw [e2]
    have h4096 : ¬ 4096 < acc.length := fun h => by rw [if_pos h] at hW; exact hne hW
    rw [if_neg h4096] at hW
    refine ⟨fun q => absurd (of_decide_eq_true q) (by omega), fun _ => ?_⟩
    conv => whnf
    refine OOK.rowF 1 hO rfl ?_
    intro g3 hg3 hR
    refine OOK.toStr rfl rfl rfl rfl rfl hR ?_
    conv => whnf
    exact .mk ⟨_, [0], _, rfl, by decide, rfl, ⟨rfl, trivial⟩, _, hW, rfl, rfl⟩
  rw [if_neg h34] at hW
  refine ⟨fun q => absurd (u8k (k := 34) (eq_of_beq q)) h34, fun _ => ?_⟩
  conv => whnf
  have hrng : ¬ (x.toNat < 32 ∨ 126 < x.toNat) := fun h => by rw [if_pos h] at hW; exact hne hW
  rw [if_neg hrng] at hW
  refine ⟨fun q => absurd (of_decide_eq_true q) (by omega), fun _ => ?_⟩
  conv => whnf
  refine ⟨fun q => absurd (of_decide_eq_true q) (by omega), fun _ => ?_⟩
  conv => whnf
  by_cases h92 : x = 92
  · rw [if_pos h92] at hW
    refine ⟨fun _ => ?_, fun q => by rw [h92] at q; cases q⟩
    conv => whnf
    rw [e2]
    refine OOK.callE [0] rfl rfl rfl (by kernel_rfl) rfl (f_escape g2 b s (q + 1) cnt hs hl (fun h => hne (by rw [hW, h]; rfl))) (by decide) rfl (fun ch h => ⟨by rw [hW, h.1]; rfl, h.2⟩) ?_
    rintro v_ g3 m_ hg3 ⟨y, hy, rfl, rfl⟩
    conv => whnf
    have hyl := esc_ok hy
    rw [hy, Out.ok_bind] at hW
    intro bl
    conv => whnf
    refine OOK.appendRowB y.1 1 encB_len rfl rfl rfl rfl (.inl ⟨_, rfl⟩) rfl (size := 1) (bytes := 1) rfl rfl rfl (by decide) rfl rfl hO (Src.own (i := 2) (q := 0) rfl rfl (fun j v hj => by rw [Nat.zero_add]; exact hj)) (encB_one _) (by omega) ?_
    intro sl' A' c' hO'
    conv => whnf
    exact ⟨⟨y.2, f, acc ++ [y.1], sl', A', c'⟩, [0, 3], Sub.of (by decide) rfl ⟨rfl, rfl, slice_eq (A := A') (a := acc.length + 1) (b := (acc ++ [y.1]).length) (c := c') (by rw [List.length_append]; rfl), trivial⟩, ⟨hO', hW, hyl.2, by show _ < y.2 + f; omega, by show (acc ++ [y.1]).length ≤ y.2; rw [List.length_append]; show acc.length + 1 ≤ y.2; omega⟩, by show f < f + 1; omega⟩
  · rw [if_neg h92] at hW
    refine ⟨fun q => absurd (u8k (k := 92) (eq_of_beq q)) h92, fun _ => ?_⟩
    conv => whnf
    rw [e2]
    intro bl
    conv => whnf
    refine OOK.appendRowB x 1 encB_len rfl rfl rfl rfl (.inl ⟨_, rfl⟩) rfl (size := 1) (bytes := 1) rfl rfl rfl (by decide) rfl rfl hO (Src.own (i := 2) (q := 0) rfl rfl (fun j v hj => by rw [Nat.zero_add]; exact hj)) (encB_one _) (by omega) ?_
    intro sl' A' c' hO'
    conv => whnf
    exact ⟨⟨q + 1, f, acc ++ [x], sl', A', c'⟩, [0, 3], Sub.of (by decide) rfl ⟨rfl, rfl, slice_eq (A := A') (a := acc.length + 1) (b := (acc ++ [x]).length) (c := c') (by rw [List.length_append]; rfl), trivial⟩, ⟨hO', hW, hl, by show _ < q + 1 + f; omega, by show (acc ++ [x]).length ≤ q + 1; rw [List.length_append]; show acc.length + 1 ≤ q + 1; omega⟩, by show f < f + 1; omega⟩
end Go.Proofs.YthkfnmmbjoadbaaGreatDoor
