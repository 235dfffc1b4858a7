/- WholeTexts: what the parser does on a text that is cut short. -/
import Derived.Test.YthkfnmmbjoadbaaGreatDoorYm8
import Derived.Test.YthkfnmmbjoadbaaGreatDoorYm9
set_option linter.unusedVariables false
set_option linter.unusedSimpArgs false
set_option maxRecDepth 100000
namespace Go.Proofs.YthkfnmmbjoadbaaGreatDoor
open Go Go.SX

/-- On the cut text: the same where the part ends before the cut, short otherwise. -/
def Cut {α : Type} (k : Nat) (pos : α → Nat) (x y : Out α) : Prop := ∀ a, x = .ok a → (pos a ≤ k → y = .ok a) ∧ (k < pos a → y = .short)
theorem Cut.bind {α β : Type} {k : Nat} {pa : α → Nat} {pb : β → Nat} {x y : Out α} {f h : α → Out β} (hx : Cut k pa x y) (hf : ∀ a, x = .ok a → pa a ≤ k → Cut k pb (f a) (h a)) (hm : ∀ a b, x = .ok a → f a = .ok b → pa a ≤ pb b) : Cut k pb (x.bind f) (y.bind h) := by
  intro b hb
  obtain ⟨a, ha, hb⟩ := Out.bind_ok hb
  obtain ⟨h1, h2⟩ := hx a ha
  have := hm a b ha hb
  rcases Nat.lt_or_ge k (pa a) with hlt | hge
  · exact ⟨fun hk => absurd hk (by omega), fun hk => by rw [h2 hlt]; rfl⟩
  · rw [h1 hge, Out.ok_bind]
    exact hf a ha hge b hb
theorem Cut.of_stuck {α : Type} {k : Nat} {pos : α → Nat} {y : Out α} : Cut k pos .stuck y := fun a h => by cases h
theorem Cut.ok {α : Type} {k : Nat} {pos : α → Nat} {a : α} (h : pos a ≤ k) : Cut k pos (.ok a) (.ok a) := fun b hb => by
  cases hb
  exact ⟨fun _ => rfl, fun h' => absurd h' (by omega)⟩
/-- The same, or short, or at an end that is the cut. -/
def CutV (k : Nat) (x y : Out (T × Nat × Nat)) : Prop := ∀ a, x = .ok a → (a.2.1 ≤ k → y = .ok a) ∧ (k < a.2.1 → y = .short ∨ ∃ b, y = .ok b ∧ k ≤ b.2.1)
theorem Cut.v {k : Nat} {x y : Out (T × Nat × Nat)} (h : Cut k (fun a => a.2.1) x y) : CutV k x y := fun a ha => ⟨(h a ha).1, fun hk => .inl ((h a ha).2 hk)⟩
section
variable {S : List UInt8} {k : Nat}
theorem cut_peek (p : Nat) : Cut k (fun _ => p + 1) (peekP S p) (peekP (S.take k) p) := by
  intro c hc
  have h := (peek_ok hc).1
  unfold peekP
  refine ⟨fun hk => ?_, fun hk => ?_⟩
  · have hk : p + 1 ≤ k := hk
    rw [List.getElem?_take, if_pos (by omega), h]
  · have hk : k < p + 1 := hk
    rw [List.getElem?_take, if_neg (by omega)]
theorem take_while (f : UInt8 → Bool) : ∀ (l : List UInt8) (n : Nat), ((l.take n).takeWhile f).length = min (l.takeWhile f).length n
  | [], n => by simp
  | c :: r, 0 => by simp
  | c :: r, n + 1 => by
    rw [List.take_succ_cons, List.takeWhile_cons, List.takeWhile_cons]
    split
    · rw [List.length_cons, List.length_cons, take_while f r n]; omega
    · simp
theorem cut_blanks (p : Nat) : blanksP (S.take k) p = if p ≤ k then min (blanksP S p) k else p := by
  unfold blanksP
  rw [List.drop_take, take_while]
  split <;> omega
theorem cut_pb (p : Nat) : Cut k (fun _ => blanksP S p + 1) (peekP S (blanksP S p)) (peekP (S.take k) (blanksP (S.take k) p)) := by
  intro c hc
  have h := (peek_ok hc).1
  have hb := blanks_le S p
  rw [cut_blanks]
  unfold peekP
  refine ⟨fun hk => ?_, fun hk => ?_⟩
  · have hk : blanksP S p + 1 ≤ k := hk
    rw [if_pos (by omega), List.getElem?_take, if_pos (by omega), show min (blanksP S p) k = blanksP S p by omega, h]
  · have hk : k < blanksP S p + 1 := hk
    rw [List.getElem?_take, if_neg (by split <;> omega)]
/-- Behind blanks. -/
theorem Cut.pb {β : Type} {pb : β → Nat} {p : Nat} {F : UInt8 → Nat → Out β} {G : UInt8 → Nat → Out β} (hf : ∀ c, peekP S (blanksP S p) = .ok c → blanksP S p + 1 ≤ k → Cut k pb (F c (blanksP S p)) (G c (blanksP S p)))
    (hm : ∀ c b, peekP S (blanksP S p) = .ok c → F c (blanksP S p) = .ok b → blanksP S p + 1 ≤ pb b) :
    Cut k pb ((peekP S (blanksP S p)).bind fun c => F c (blanksP S p)) ((peekP (S.take k) (blanksP (S.take k) p)).bind fun c => G c (blanksP (S.take k) p)) := by
  intro b hb
  obtain ⟨c, hc, hb⟩ := Out.bind_ok hb
  obtain ⟨h1, h2⟩ := cut_pb (k := k) p c hc
  have hle := hm c b hc hb
  have hbl := blanks_le S p
  rcases Nat.lt_or_ge k (blanksP S p + 1) with hlt | hge
  · refine ⟨fun hk => absurd hk (by omega), fun hk => ?_⟩
    rw [h2 hlt]; rfl
  · have e : blanksP (S.take k) p = blanksP S p := by rw [cut_blanks, if_pos (by omega)]; omega
    rw [h1 hge, Out.ok_bind, e]
    exact hf c hc hge b hb
theorem cut_hex (p : Nat) : Cut k (fun _ => p + 1) (hexP S p) (hexP (S.take k) p) := by
  unfold hexP
  refine Cut.bind (cut_peek p) (fun c hc hk => ?_) (fun _ _ _ _ => Nat.le_refl _)
  split
  · exact Cut.ok hk
  · exact Cut.of_stuck
theorem cut_esc (p : Nat) : Cut k (fun x => x.2) (escP S p) (escP (S.take k) p) := by
  unfold escP
  refine Cut.bind (cut_peek p) (fun c hc hk => ?_) (fun c b hc hb => (esc_ok (s := S) (by unfold escP; rw [hc]; exact hb)).1)
  split
  · exact Cut.ok hk
  split
  · exact Cut.ok hk
  split
  · exact Cut.ok hk
  split
  · refine Cut.bind (cut_hex _) (fun a ha h1 => Cut.bind (cut_hex _) (fun b hb h2 => Cut.ok h2) fun b x hb hx => ?_) fun a x ha hx => ?_
    · cases hx; exact Nat.le_refl _
    · obtain ⟨b, hb, hx⟩ := Out.bind_ok hx
      cases hx; show p + 1 + 1 ≤ p + 3; omega
  · exact Cut.of_stuck
theorem cut_lit : ∀ (f f' p : Nat) (acc : List UInt8), p ≤ k → k + 1 ≤ f' + p → Cut k (fun x => x.2) (litP S f p acc) (litP (S.take k) f' p acc)
  | 0, _, p, acc, _, _ => Cut.of_stuck
  | f + 1, 0, p, acc, h1, h2 => absurd h2 (by omega)
  | f + 1, f' + 1, p, acc, h1, h2 => by
    have hmono : ∀ c b, peekP S p = .ok c → _ → p + 1 ≤ (b : List UInt8 × Nat).2 := fun c b hc hb => (lit_ok (f + 1) p acc b (by rw [litP, hc]; exact hb)).1
    rw [litP, litP]
    refine Cut.bind (cut_peek p) (fun c hc hk => ?_) hmono
    split
    · split
      · exact Cut.of_stuck
      · exact Cut.ok hk
    split
    · exact Cut.of_stuck
    split
    · exact Cut.bind (cut_esc _) (fun x hx hxk => cut_lit f f' x.2 _ hxk (by have := (esc_ok hx).1; omega)) fun x b hx hb => Nat.le_of_lt (lit_ok f _ _ b hb).1
    · exact cut_lit f f' (p + 1) _ hk (by omega)
theorem cut_word : ∀ (w : List UInt8) (p : Nat), p ≤ k → Cut k id (wordP S w p) (wordP (S.take k) w p)
  | [], p, h => by rw [wordP, wordP]; exact Cut.ok h
  | c :: r, p, h => by
    have hmono : ∀ x b, peekP S p = .ok x → _ → p + 1 ≤ id (b : Nat) := fun x b hx hb => by
      have := (word_ok (s := S) (c :: r) p b (by rw [wordP, hx]; exact hb)).1
      rw [List.length_cons] at this
      show p + 1 ≤ b
      omega
    rw [wordP, wordP]
    refine Cut.bind (cut_peek p) (fun x hx hk => ?_) hmono
    split
    · exact cut_word r (p + 1) hk
    · exact Cut.of_stuck
theorem cut_more (c : UInt8) (p : Nat) : Cut k (fun x => x.2) (moreP S c p) (moreP (S.take k) c p) := by
  unfold moreP
  refine Cut.pb (F := fun a q => if a = 44 then .ok (true, q + 1) else if a = c then .ok (false, q + 1) else .stuck) (G := fun a q => if a = 44 then .ok (true, q + 1) else if a = c then .ok (false, q + 1) else .stuck) (fun a ha hk => ?_) (fun a b ha hb => ?_)
  · split
    · exact Cut.ok hk
    split
    · exact Cut.ok hk
    · exact Cut.of_stuck
  · split at hb
    · cases hb; exact Nat.le_refl _
    split at hb
    · cases hb; exact Nat.le_refl _
    · cases hb
theorem more_short {p : Nat} {c : UInt8} (h : k ≤ p) (hS : k ≤ S.length) : moreP (S.take k) c p = .short := by
  have h1 := blanks_le (S.take k) p
  unfold moreP peekP
  rw [List.getElem?_take, if_neg (by omega)]
  rfl
def ePos (x : Bool × Nat) : Nat := if x.1 then x.2 else x.2 + 1
theorem cut_empty (c : UInt8) (p : Nat) : Cut k ePos (emptyP S c p) (emptyP (S.take k) c p) := by
  unfold emptyP
  refine Cut.pb (F := fun a q => if a = c then .ok (true, q + 1) else .ok (false, q)) (G := fun a q => if a = c then .ok (true, q + 1) else .ok (false, q)) (fun a ha hk => ?_) (fun a b ha hb => ?_)
  · split
    · exact Cut.ok hk
    · exact Cut.ok hk
  · split at hb
    · cases hb; exact Nat.le_refl _
    · cases hb; exact Nat.le_refl _
/-! ### integers -/
open Go.Lib in
theorem uint_ge : ∀ (b : List UInt8) (acc u : Nat), parseUint10 acc b = .ok u → acc ≤ u
  | [], acc, u, h => by simp only [parseUint10] at h; injection h with h; omega
  | c :: r, acc, u, h => by
    simp only [parseUint10] at h
    split at h
    · split at h
      · cases h
      split at h
      · cases h
      have := uint_ge r _ u h
      omega
    · cases h
open Go.Lib in
theorem uint_pre : ∀ (a b : List UInt8) (acc u : Nat), parseUint10 acc (a ++ b) = .ok u → ∃ u', parseUint10 acc a = .ok u' ∧ u' ≤ u
  | [], b, acc, u, h => by
    exact ⟨acc, rfl, uint_ge b acc u h⟩
  | c :: r, b, acc, u, h => by
    rw [List.cons_append] at h
    simp only [parseUint10] at h ⊢
    split at h
    · rename_i h1
      rw [if_pos h1]
      split at h
      · cases h
      rename_i h2
      rw [if_neg h2]
      split at h
      · cases h
      rename_i h3
      rw [if_neg h3]
      exact uint_pre r b _ u h
    · cases h
open Go.Lib in
theorem mag_pre {a b : List UInt8} {u : Nat} (ha : a ≠ []) (h : parseMag (a ++ b) = .ok u) : ∃ u', parseMag a = .ok u' ∧ u' ≤ u := by
  unfold parseMag at h ⊢
  rw [if_neg (by simp [ha])] at h
  rw [if_neg ha]
  exact uint_pre a b 0 u h
open Go.Lib in
theorem atoi_pre {a b : List UInt8} {v : Int} (ha : a ≠ []) (h45 : a ≠ [45]) (h43 : a.head? ≠ some 43) (h : atoiAll (a ++ b) = .ok v) : ∃ v', atoiAll a = .ok v' := by
  cases a with
  | nil => exact absurd rfl ha
  | cons c r =>
    have n43 : c ≠ 43 := fun e => h43 (by rw [e]; rfl)
    by_cases hc : c = 45
    · subst hc
      have hr : r ≠ [] := fun e => h45 (by rw [e])
      rw [List.cons_append, atoiAll_minus] at h
      rw [atoiAll_minus]
      cases hm : parseMag (r ++ b) with
      | ok u =>
        rw [hm] at h
        obtain ⟨u', h1, h2⟩ := mag_pre hr hm
        rw [h1]
        simp only [signed] at h ⊢
        split at h
        · cases h
        · rw [if_neg (by omega)]; exact ⟨_, rfl⟩
      | _ => rw [hm] at h; cases h
    · have e1 : c.toNat ≠ 43 := fun e => n43 (UInt8.toNat_inj.1 e)
      have e2 : c.toNat ≠ 45 := fun e => hc (UInt8.toNat_inj.1 e)
      rw [List.cons_append, atoiAll_plain c _ e1 e2] at h
      rw [atoiAll_plain c _ e1 e2]
      cases hm : parseMag (c :: (r ++ b)) with
      | ok u =>
        rw [hm] at h
        obtain ⟨u', h1, h2⟩ := mag_pre (a := c :: r) (by simp) hm
        rw [h1]
        simp only [signless] at h ⊢
        split at h
        · cases h
        · rw [if_neg (by omega)]; exact ⟨_, rfl⟩
      | _ => rw [hm] at h; cases h
theorem cut_int (hS : k ≤ S.length) (p : Nat) (x : Int × Nat) (h : intP S p = .ok x) : (x.2 ≤ k → intP (S.take k) p = .ok x) ∧ (k < x.2 → intP (S.take k) p = .short ∨ ∃ n, intP (S.take k) p = .ok (n, k)) := by
  have hok := int_ok h
  unfold intP at h ⊢
  obtain ⟨c, hc, h⟩ := Out.bind_ok h
  obtain ⟨h1, h2⟩ := cut_peek (k := k) p c hc
  rcases Nat.lt_or_ge k (p + 1) with hlt | hge
  · exact ⟨fun hk => absurd hk (by omega), fun hk => .inl (by rw [h2 hlt]; rfl)⟩
  rw [h1 hge, Out.ok_bind]
  obtain ⟨q, hq, h⟩ := Out.bind_ok h
  -- behind the sign
  have key : (∃ d, peekP S q = .ok d ∧ isDigit d = true ∧ q + 1 ≤ x.2) ∧ p ≤ q ∧ (c = 45 → q = p + 1) ∧ (c ≠ 45 → q = p) := by
    obtain ⟨d, hd, h⟩ := Out.bind_ok h
    have hpq : p ≤ q ∧ (c = 45 → q = p + 1) ∧ (c ≠ 45 → q = p) := by
      split at hq
      · rename_i hc
        obtain ⟨d', hd', hq⟩ := Out.bind_ok hq
        split at hq
        · cases hq
        · cases hq; exact ⟨by omega, fun _ => rfl, fun h => absurd hc h⟩
      · rename_i hc
        cases hq; exact ⟨by omega, fun h => absurd h hc, fun _ => rfl⟩
    split at h
    · cases h
    rename_i hdig
    have hdig : isDigit d = true := by simpa using hdig
    refine ⟨⟨d, hd, hdig, ?_⟩, hpq⟩
    split at h
    · cases h
    split at h
    · cases h
      have hpos : 0 < ((S.drop q).takeWhile isDigit).length := by
        rw [drop_cons (peek_ok hd).1, List.takeWhile_cons, if_pos hdig]; simp
      show q + 1 ≤ q + _
      omega
    · cases h
  obtain ⟨⟨d, hd, hdig, hqx⟩, hpq, hs45, hn45⟩ := key
  obtain ⟨g1, g2⟩ := cut_peek (k := k) q d hd
  rcases Nat.lt_or_ge k (q + 1) with hqk | hqk
  · -- the sign alone, or nothing
    refine ⟨fun hk => absurd hk (by omega), fun hk => .inl ?_⟩
    split
    · rename_i hc45
      rw [← hs45 hc45, g2 hqk]
      rfl
    · rename_i hc45
      have := hn45 hc45
      omega
  have hq' : (if c = 45 then (peekP (S.take k) (p + 1)).bind fun d => if d = 48 then Out.stuck else Out.ok (p + 1) else Out.ok p) = Out.ok q := by
    split at hq
    · rename_i hc45
      rw [if_pos hc45]
      have e := hs45 hc45
      rw [← e] at hq ⊢
      rw [hd, Out.ok_bind] at hq
      rw [g1 hqk, Out.ok_bind]
      exact hq
    · rename_i hc45
      rw [if_neg hc45]
      exact hq
  rw [hq', Out.ok_bind, g1 hqk, Out.ok_bind]
  rw [hd, Out.ok_bind] at h
  rw [if_neg (by rw [hdig]; decide)] at h ⊢
  obtain ⟨R, hR⟩ : ∃ R, R = ((S.drop q).takeWhile isDigit).length := ⟨_, rfl⟩
  have hR' : (((S.take k).drop q).takeWhile isDigit).length = min R (k - q) := by rw [List.drop_take, take_while, hR]
  rw [← hR] at h
  rw [hR']
  split at h
  · cases h
  rename_i hz
  rw [if_neg (fun hh => hz ⟨hh.1, by omega⟩)]
  have hRlen : q + R ≤ S.length := by
    have := (List.takeWhile_prefix isDigit (l := S.drop q)).length_le
    rw [List.length_drop, ← hR] at this
    have := (peek_ok hd).2
    omega
  have htake : ((S.take k).drop p).take (q + min R (k - q) - p) = ((S.drop p).take (q + R - p)).take (q + min R (k - q) - p) := by
    rw [List.drop_take, List.take_take, List.take_take]
    congr 1
    omega
  rw [htake]
  split at h
  · rename_i v hv
    cases h
    refine ⟨fun hk => ?_, fun hk => ?_⟩
    · have hk : q + R ≤ k := hk
      rw [show min R (k - q) = R by omega, List.take_take, Nat.min_self, hv]
    · have hk : k < q + R := hk
      refine .inr ?_
      rw [show min R (k - q) = k - q by omega]
      obtain ⟨txt, htxt⟩ : ∃ txt, txt = (S.drop p).take (q + R - p) := ⟨_, rfl⟩
      rw [← htxt] at hv ⊢
      have hcons : txt = c :: (S.drop (p + 1)).take (q + R - p - 1) := by
        rw [htxt, drop_cons (peek_ok hc).1, show q + R - p = (q + R - p - 1) + 1 by omega, List.take_succ_cons]
        rfl
      have htl : txt.length = q + R - p := by rw [htxt, List.length_take, List.length_drop]; omega
      obtain ⟨v', hv'⟩ := atoi_pre (a := txt.take (q + (k - q) - p)) (b := txt.drop (q + (k - q) - p)) (v := v) (fun e => by
          have := congrArg List.length e
          rw [List.length_take, htl, List.length_nil] at this
          omega) (fun e => by
          have h1 := congrArg List.length e
          rw [List.length_take, htl, List.length_singleton] at h1
          have h2 : c = 45 := by
            rw [hcons, show q + (k - q) - p = (q + (k - q) - p - 1) + 1 by omega, List.take_succ_cons] at e
            injection e
          have := hs45 h2
          omega) (fun e => by
          rw [hcons, show q + (k - q) - p = (q + (k - q) - p - 1) + 1 by omega, List.take_succ_cons] at e
          have h2 : c = 43 := by simpa using e
          have h3 := hn45 (by rw [h2]; decide)
          rw [h3, hc] at hd
          injection hd with hd
          rw [← hd, h2] at hdig
          exact absurd hdig (by decide)) (by rw [List.take_append_drop]; exact hv)
      rw [hv']
      exact ⟨v', by show Out.ok (v', q + (k - q)) = _; rw [show q + (k - q) = k by omega]⟩
  · cases h
end
end Go.Proofs.YthkfnmmbjoadbaaGreatDoor
/- WholeTexts: texts with blanks, escapes and keys in any order, and that the parser reads them. -/
set_option linter.unusedVariables false
set_option linter.unusedSimpArgs false
set_option maxRecDepth 100000
namespace Go.Proofs.YthkfnmmbjoadbaaGreatDoor
open Go Go.SX

def Blank (b : List UInt8) : Prop := ∀ c ∈ b, isBlank c = true
inductive QB : List UInt8 → List UInt8 → Prop where
  | nil : QB [] []
  | cons (c : UInt8) (s e x : List UInt8) : e = byteT c ∨ e = hexT c → QB s x → QB (c :: s) (e ++ x)
def Quo (s x : List UInt8) : Prop := ∃ y, QB s y ∧ x = [34] ++ y ++ [34]
def LPart (R : T → List UInt8 → Prop) (q : T × List UInt8) : Prop := ∃ a x b, Blank a ∧ Blank b ∧ R q.1 x ∧ q.2 = a ++ x ++ b
def MPart (R : T → List UInt8 → Prop) (q : (List UInt8 × T) × List UInt8) : Prop := ∃ a k b c x d, Blank a ∧ Blank b ∧ Blank c ∧ Blank d ∧ q.1.1.length ≤ 4096 ∧ Quo q.1.1 k ∧ R q.1.2 x ∧ q.2 = a ++ k ++ b ++ [58] ++ (c ++ x ++ d)
def Prim (t : T) (x : List UInt8) : Prop := (t = .mk 0 0 [] [] [] ∧ x = kNull) ∨ (t = .mk 1 1 [] [] [] ∧ x = kTrue) ∨ (t = .mk 1 0 [] [] [] ∧ x = kFalse) ∨
  (∃ n : Int, -9223372036854775808 ≤ n ∧ n ≤ 9223372036854775807 ∧ t = .mk 2 n [] [] [] ∧ x = Lib.itoa n) ∨ (∃ s, s.length ≤ 4096 ∧ t = .mk 3 0 s [] [] ∧ Quo s x)
/-- A text of a payload. -/
def Lo : Nat → T → List UInt8 → Prop
  | 0, t, x => Prim t x
  | d + 1, t, x => Prim t x ∨ (∃ b, Blank b ∧ (t = .mk 4 0 [] [] [] ∧ x = [91] ++ b ++ [93] ∨ t = .mk 5 0 [] [] [] ∧ x = [123] ++ b ++ [125])) ∨
    (∃ qs : List (T × List UInt8), qs ≠ [] ∧ t = .mk 4 0 [] (qs.map Prod.fst) [] ∧ (∀ q ∈ qs, LPart (Lo d) q) ∧ x = [91] ++ joinB [44] (qs.map Prod.snd) ++ [93]) ∨
    (∃ qs : List ((List UInt8 × T) × List UInt8), qs ≠ [] ∧ t = .mk 5 0 [] ((sortK (qs.map Prod.fst)).map Prod.snd) ((sortK (qs.map Prod.fst)).map Prod.fst) ∧ ((qs.map Prod.fst).map Prod.fst).Nodup ∧ (∀ q ∈ qs, MPart (Lo d) q) ∧ x = [123] ++ joinB [44] (qs.map Prod.snd) ++ [125])
theorem Lo.pr {t : T} {x : List UInt8} (h : Prim t x) : ∀ d, Lo d t x
  | 0 => h
  | d + 1 => .inl h
/-! ### the parser at a place -/
section
variable {S : List UInt8}
theorem at_peek {p : Nat} {c : UInt8} {r : List UInt8} (h : S.drop p = c :: r) : peekP S p = .ok c := by
  have : (S.drop p)[0]? = some c := by rw [h]; rfl
  rw [List.getElem?_drop, Nat.add_zero] at this
  unfold peekP
  rw [this]
theorem at_drop {p : Nat} {a r : List UInt8} (h : S.drop p = a ++ r) : S.drop (p + a.length) = r := by
  rw [← List.drop_drop, h, List.drop_left]
theorem at_drop1 {p : Nat} {c : UInt8} {r : List UInt8} (h : S.drop p = c :: r) : S.drop (p + 1) = r := at_drop (a := [c]) h
theorem at_blanks {p : Nat} {b r : List UInt8} (h : S.drop p = b ++ r) (hb : Blank b) (hr : ∀ c, r.head? = some c → isBlank c = false) : blanksP S p = p + b.length := by
  unfold blanksP
  rw [h, List.takeWhile_append_of_pos (by exact hb)]
  have : r.takeWhile isBlank = [] := by
    cases r with
    | nil => rfl
    | cons c r => rw [List.takeWhile_cons, if_neg (by rw [hr c rfl]; decide)]
  rw [this, List.append_nil]
theorem at_esc {p : Nat} {c : UInt8} {r : List UInt8} (h : S.drop p = 120 :: dig (c.toNat / 16) :: dig (c.toNat % 16) :: r) : escP S p = .ok (c, p + 3) := by
  have h1 : S.drop (p + 1) = dig (c.toNat / 16) :: dig (c.toNat % 16) :: r := at_drop1 h
  have h2 : S.drop (p + 1 + 1) = dig (c.toNat % 16) :: r := at_drop1 h1
  have hv : ∀ n : Fin 16, hexV (dig n.val) = some n.val := by decide +kernel
  have e1 : hexP S (p + 1) = .ok (c.toNat / 16) := by
    unfold hexP
    rw [at_peek h1, Out.ok_bind]
    have := hv ⟨c.toNat / 16, by have := c.toNat_lt; omega⟩
    simp only at this
    rw [this]
  have e2 : hexP S (p + 2) = .ok (c.toNat % 16) := by
    unfold hexP
    rw [at_peek h2, Out.ok_bind]
    have := hv ⟨c.toNat % 16, by omega⟩
    simp only at this
    rw [this]
  unfold escP
  rw [at_peek h, Out.ok_bind, if_neg (by decide), if_neg (by decide), if_neg (by decide), if_pos rfl, e1, Out.ok_bind, e2, Out.ok_bind]
  rw [show c.toNat / 16 * 16 + c.toNat % 16 = c.toNat by omega, UInt8.ofNat_toNat]
theorem lit_hex {p f : Nat} {c : UInt8} {acc r : List UInt8} (h : S.drop p = hexT c ++ r) : litP S (f + 1) p acc = litP S f (p + 4) (acc ++ [c]) := by
  have h0 : S.drop p = 92 :: 120 :: dig (c.toNat / 16) :: dig (c.toNat % 16) :: r := h
  have h1 := at_drop1 h0
  rw [litP, at_peek h0, Out.ok_bind, if_neg (by decide), if_neg (by decide), if_pos rfl, at_esc h1, Out.ok_bind]
theorem lit_byte {p f : Nat} {c : UInt8} {acc r : List UInt8} (h : S.drop p = byteT c ++ r) : litP S (f + 1) p acc = litP S f (p + (byteT c).length) (acc ++ [c]) := by
  unfold byteT at h ⊢
  have esc : ∀ e v : UInt8, S.drop p = 92 :: e :: r → (∀ r', S.drop (p + 1) = e :: r' → escP S (p + 1) = .ok (v, p + 2)) → litP S (f + 1) p acc = litP S f (p + 2) (acc ++ [v]) := by
    intro e v h0 he
    have h1 := at_drop1 h0
    rw [litP, at_peek h0, Out.ok_bind, if_neg (by decide), if_neg (by decide), if_pos rfl, he _ h1, Out.ok_bind]
  split at h
  · rename_i h1
    rw [if_pos h1]
    have : c = 34 := UInt8.toNat_inj.1 h1
    subst this
    exact esc 34 34 h fun r' h' => by unfold escP; rw [at_peek h', Out.ok_bind, if_pos (by decide)]
  rename_i n1
  rw [if_neg n1]
  split at h
  · rename_i h1
    rw [if_pos h1]
    have : c = 92 := UInt8.toNat_inj.1 h1
    subst this
    exact esc 92 92 h fun r' h' => by unfold escP; rw [at_peek h', Out.ok_bind, if_pos (by decide)]
  rename_i n2
  rw [if_neg n2]
  split at h
  · rename_i h1
    rw [if_pos h1]
    have : c = 10 := UInt8.toNat_inj.1 h1
    subst this
    exact esc 110 10 h fun r' h' => by unfold escP; rw [at_peek h', Out.ok_bind, if_neg (by decide), if_pos (by decide)]
  rename_i n3
  rw [if_neg n3]
  split at h
  · rename_i h1
    rw [if_pos h1]
    have : c = 9 := UInt8.toNat_inj.1 h1
    subst this
    exact esc 116 9 h fun r' h' => by unfold escP; rw [at_peek h', Out.ok_bind, if_neg (by decide), if_neg (by decide), if_pos (by decide)]
  rename_i n4
  rw [if_neg n4]
  split at h
  · rename_i h1
    rw [if_pos h1]
    exact lit_hex h
  rename_i n5
  rw [if_neg n5]
  rw [litP, at_peek h, Out.ok_bind, if_neg (fun e => n1 (by rw [e]; rfl)), if_neg n5, if_neg (fun e => n2 (by rw [e]; rfl))]
  rfl
theorem lit_body {s y : List UInt8} (h : QB s y) : ∀ {p f : Nat} {acc r : List UInt8}, S.drop p = y ++ ([34] ++ r) → y.length + 1 ≤ f → acc.length + s.length ≤ 4096 → litP S f p acc = .ok (acc ++ s, p + y.length + 1) := by
  induction h with
  | nil =>
    intro p f acc r h hf hl
    obtain ⟨f, rfl⟩ : ∃ f', f = f' + 1 := ⟨f - 1, by simp at hf; omega⟩
    have h0 : S.drop p = 34 :: r := h
    rw [litP, at_peek h0, Out.ok_bind, if_pos rfl, if_neg (by simp at hl; omega), List.append_nil]
    rfl
  | cons c s e x he hq ih =>
    intro p f acc r h hf hl
    rw [List.length_append] at hf
    have hel : 1 ≤ e.length := by
      rcases he with rfl | rfl
      · unfold byteT hexT; repeat (first | (split; · simp) | simp)
      · simp [hexT]
    obtain ⟨f, rfl⟩ : ∃ f', f = f' + 1 := ⟨f - 1, by omega⟩
    rw [List.append_assoc] at h
    have h1 := at_drop h
    have hstep : litP S (f + 1) p acc = litP S f (p + e.length) (acc ++ [c]) := by
      rcases he with rfl | rfl
      · exact lit_byte h
      · exact lit_hex h
    rw [hstep, ih h1 (by omega) (by simp at hl ⊢; omega), List.append_assoc, List.length_append]
    simp only [List.singleton_append]
    rw [show p + e.length + x.length + 1 = p + (e.length + x.length) + 1 by omega]
theorem at_quo {s x : List UInt8} (h : Quo s x) {p : Nat} {r : List UInt8} (hd : S.drop p = x ++ r) (hl : s.length ≤ 4096) : peekP S p = .ok 34 ∧ litP S (S.length + 1) (p + 1) [] = .ok (s, p + x.length) := by
  obtain ⟨y, hy, rfl⟩ := h
  have h0 : S.drop p = 34 :: (y ++ ([34] ++ r)) := by rw [hd]; simp
  have h1 := at_drop1 h0
  have hlen : y.length ≤ S.length := by
    have := congrArg List.length h0
    rw [List.length_drop] at this
    simp only [List.length_cons, List.length_append] at this
    omega
  refine ⟨at_peek h0, ?_⟩
  rw [lit_body hy h1 (by omega) (by simpa using hl)]
  simp only [List.nil_append, List.length_append, List.length_cons, List.length_nil]
  rw [show p + 1 + y.length + 1 = p + (0 + 1 + y.length + (0 + 1)) by omega]
theorem at_word : ∀ (w : List UInt8) {p : Nat} {r : List UInt8}, S.drop p = w ++ r → wordP S w p = .ok (p + w.length)
  | [], p, r, _ => rfl
  | c :: w, p, r, h => by
    have h0 : S.drop p = c :: (w ++ r) := h
    rw [wordP, at_peek h0, Out.ok_bind, if_pos rfl, at_word w (at_drop1 h0), List.length_cons]
    show Out.ok (p + 1 + w.length) = _
    rw [show p + 1 + w.length = p + (w.length + 1) by omega]
theorem at_more {p : Nat} {b r : List UInt8} {c : UInt8} (h : S.drop p = b ++ ([c] ++ r)) (hb : Blank b) (hc : isBlank c = false) (h44 : c ≠ 44) : moreP S c p = .ok (false, p + b.length + 1) := by
  have h1 := at_drop h
  unfold moreP
  rw [at_blanks h hb (by intro c' h'; simp at h'; subst h'; exact hc), at_peek h1, Out.ok_bind, if_neg h44, if_pos rfl]
theorem at_comma {p : Nat} {b r : List UInt8} {c : UInt8} (h : S.drop p = b ++ ([44] ++ r)) (hb : Blank b) : moreP S c p = .ok (true, p + b.length + 1) := by
  have h1 := at_drop h
  unfold moreP
  rw [at_blanks h hb (by intro c' h'; simp at h'; subst h'; rfl), at_peek h1, Out.ok_bind, if_pos rfl]
end
end Go.Proofs.YthkfnmmbjoadbaaGreatDoor
/- WholeTexts: the parser reads such a text. -/
set_option linter.unusedVariables false
set_option linter.unusedSimpArgs false
set_option maxRecDepth 100000
namespace Go.Proofs.YthkfnmmbjoadbaaGreatDoor
open Go Go.SX

/-! ### numerals -/
open Go.Lib
theorem dig_c {k : Nat} (h : k < 10) : (UInt8.ofNat (48 + k)).toNat = 48 + k := by rw [UInt8.toNat_ofNat']; omega
theorem isDigit_c {k : Nat} (h : k < 10) : isDigit (UInt8.ofNat (48 + k)) = true := by
  unfold isDigit
  rw [dig_c h]
  simp; omega
theorem dec_dig (u : Nat) : ∀ c ∈ decDigits u, isDigit c = true := by
  induction u using Nat.strongRecOn with
  | _ u ih =>
    intro c hc
    rw [decDigits] at hc
    split at hc
    · rename_i h
      rw [List.mem_singleton.1 hc]; exact isDigit_c h
    · rcases List.mem_append.1 hc with hc | hc
      · exact ih (u / 10) (by omega) c hc
      · rw [List.mem_singleton.1 hc]; exact isDigit_c (by omega)
theorem dec_cons (u : Nat) : ∃ c r, decDigits u = c :: r ∧ (c = 48 → r = []) := by
  induction u using Nat.strongRecOn with
  | _ u ih =>
    rw [decDigits]
    split
    · exact ⟨_, _, rfl, fun _ => rfl⟩
    · rename_i h
      obtain ⟨c, r, h1, h2⟩ := ih (u / 10) (by omega)
      rw [h1]
      refine ⟨c, r ++ [UInt8.ofNat (48 + u % 10)], rfl, fun hc => ?_⟩
      exfalso
      have hr := h2 hc
      subst hr
      -- the first digit of a positive number is no '0'
      by_cases h10 : u / 10 < 10
      · rw [decDigits, dif_pos h10] at h1
        injection h1 with h1
        rw [hc] at h1
        have := congrArg UInt8.toNat h1
        rw [dig_c h10] at this
        have : 48 + u / 10 = 48 := this
        omega
      · rw [decDigits, dif_neg h10] at h1
        have := congrArg List.length h1
        rw [List.length_append, List.length_singleton, List.length_singleton] at this
        have hz : decDigits (u / 10 / 10) = [] := List.length_eq_zero_iff.1 (by omega)
        obtain ⟨c', r', h3, _⟩ := ih (u / 10 / 10) (by omega)
        rw [h3] at hz
        cases hz
theorem uint_app : ∀ (a b : List UInt8) (acc m : Nat), parseUint10 acc a = .ok m → parseUint10 acc (a ++ b) = parseUint10 m b
  | [], b, acc, m, h => by simp only [parseUint10] at h; injection h with h; rw [h]; rfl
  | c :: r, b, acc, m, h => by
    rw [List.cons_append]
    simp only [parseUint10] at h ⊢
    split at h
    · rename_i h1
      rw [if_pos h1]
      split at h
      · cases h
      rename_i h2
      rw [if_neg h2]
      split at h
      · cases h
      rename_i h3
      rw [if_neg h3]
      exact uint_app r b _ m h
    · cases h
theorem uint_dec (u : Nat) : u < 18446744073709551616 → parseUint10 0 (decDigits u) = .ok u := by
  induction u using Nat.strongRecOn with
  | _ u ih =>
    intro hu
    rw [decDigits]
    split
    · rename_i h
      simp only [parseUint10, dig_c h]
      rw [if_pos (by omega), if_neg (by omega), if_neg (by omega)]
      congr 1; omega
    · rename_i h
      rw [uint_app _ _ _ _ (ih (u / 10) (by omega) (by omega))]
      have h10 : u % 10 < 10 := by omega
      simp only [parseUint10, dig_c h10]
      rw [if_pos (by omega), if_neg (by omega), if_neg (by omega)]
      congr 1; omega
theorem mag_dec {u : Nat} (h : u < 18446744073709551616) : parseMag (decDigits u) = .ok u := by
  unfold parseMag
  obtain ⟨c, r, h1, _⟩ := dec_cons u
  rw [if_neg (by rw [h1]; simp), uint_dec u h]
theorem atoi_itoa {n : Int} (h1 : -9223372036854775808 ≤ n) (h2 : n ≤ 9223372036854775807) : atoiAll (itoa n) = .ok n := by
  unfold itoa
  split
  · rw [atoiAll_minus, mag_dec (by omega)]
    simp only [signed]
    rw [if_neg (by omega)]
    congr 1; omega
  · obtain ⟨c, r, h3, _⟩ := dec_cons n.toNat
    have hc := dec_dig n.toNat c (by rw [h3]; exact List.mem_cons_self)
    have hm := mag_dec (u := n.toNat) (by omega)
    rw [h3] at hm ⊢
    have hcn : 48 ≤ c.toNat := by
      unfold isDigit at hc
      simp at hc
      exact hc.1
    rw [atoiAll_plain c r (by omega) (by omega), hm]
    simp only [signless]
    rw [if_neg (by omega)]
    congr 1; omega
section
variable {S : List UInt8}
theorem at_digits {q : Nat} {u : Nat} {r : List UInt8} (h : S.drop q = decDigits u ++ r) (hr : ∀ c, r.head? = some c → isDigit c = false) : ((S.drop q).takeWhile isDigit).length = (decDigits u).length := by
  rw [h, List.takeWhile_append_of_pos (dec_dig u)]
  have : r.takeWhile isDigit = [] := by
    cases r with
    | nil => rfl
    | cons c r => rw [List.takeWhile_cons, if_neg (by rw [hr c rfl]; decide)]
  rw [this, List.append_nil]
theorem at_int {p : Nat} {n : Int} {r : List UInt8} (h1 : -9223372036854775808 ≤ n) (h2 : n ≤ 9223372036854775807) (h : S.drop p = itoa n ++ r) (hr : ∀ c, r.head? = some c → isDigit c = false) : intP S p = .ok (n, p + (itoa n).length) := by
  have hat := atoi_itoa h1 h2
  have htk : ∀ m, m = (itoa n).length → (S.drop p).take m = itoa n := fun m hm => by rw [h, hm, List.take_left]
  by_cases hn : n < 0
  · have e : itoa n = 45 :: decDigits n.natAbs := by unfold itoa; rw [if_pos hn]
    obtain ⟨c, d, h3, h48⟩ := dec_cons n.natAbs
    have h0 : S.drop p = 45 :: (decDigits n.natAbs ++ r) := by rw [h, e]; rfl
    have hq := at_drop1 h0
    have hdg := at_digits hq hr
    have hpk : peekP S (p + 1) = .ok c := at_peek (r := d ++ r) (by rw [hq, h3]; rfl)
    have hcd := dec_dig n.natAbs c (by rw [h3]; exact List.mem_cons_self)
    have hc48 : c ≠ 48 := fun hc => by
      have h5 := h48 hc
      rw [h5, hc] at h3
      have h6 := uint_dec n.natAbs (by omega)
      rw [h3] at h6
      have h7 : parseUint10 0 [48] = .ok 0 := by decide
      rw [h7] at h6
      injection h6 with h6
      omega
    unfold intP
    rw [at_peek h0, Out.ok_bind, if_pos rfl, hpk, Out.ok_bind, if_neg hc48, Out.ok_bind, hpk, Out.ok_bind, if_neg (by rw [hcd]; decide), if_neg (fun hh => hc48 hh.1), hdg]
    have hlen : (itoa n).length = (decDigits n.natAbs).length + 1 := by rw [e]; rfl
    rw [htk (p + 1 + (decDigits n.natAbs).length - p) (by omega), hat]
    show Out.ok (n, p + 1 + _) = _
    rw [show p + 1 + (decDigits n.natAbs).length = p + (itoa n).length by omega]
  · have e : itoa n = decDigits n.toNat := by unfold itoa; rw [if_neg hn]
    obtain ⟨c, d, h3, h48⟩ := dec_cons n.toNat
    have h0 : S.drop p = c :: (d ++ r) := by rw [h, e, h3]; rfl
    have hcd := dec_dig n.toNat c (by rw [h3]; exact List.mem_cons_self)
    have hdg := at_digits (q := p) (by rw [h, e]) hr
    unfold intP
    have n45 : c ≠ 45 := fun hc => by rw [hc] at hcd; exact absurd hcd (by decide)
    rw [at_peek h0, Out.ok_bind, if_neg n45, Out.ok_bind, at_peek h0, Out.ok_bind, if_neg (by rw [hcd]; decide), hdg, if_neg (fun hh => by
      have h5 := h48 hh.1
      have h6 := hh.2
      rw [h3, h5] at h6
      exact absurd h6 (by simp))]
    have hlen : (itoa n).length = (decDigits n.toNat).length := by rw [e]
    rw [htk (p + (decDigits n.toNat).length - p) (by omega), hat]
    show Out.ok (n, p + _) = _
    rw [← hlen]
end
end Go.Proofs.YthkfnmmbjoadbaaGreatDoor
/- WholeTexts: lists, maps and values that are cut short. -/
set_option linter.unusedVariables false
set_option linter.unusedSimpArgs false
set_option maxRecDepth 100000
namespace Go.Proofs.YthkfnmmbjoadbaaGreatDoor
open Go Go.SX

section
variable {S : List UInt8} {k : Nat}
/-- A value, then what is short at the cut. -/
theorem CutV.bind {β : Type} {pb : β → Nat} {x y : Out (T × Nat × Nat)} {f h : T × Nat × Nat → Out β} (hx : CutV k x y) (hf : ∀ a, x = .ok a → a.2.1 ≤ k → Cut k pb (f a) (h a)) (hs : ∀ b, k ≤ b.2.1 → h b = .short) (hm : ∀ a b, x = .ok a → f a = .ok b → a.2.1 < pb b) : Cut k pb (x.bind f) (y.bind h) := by
  intro b hb
  obtain ⟨a, ha, hb⟩ := Out.bind_ok hb
  obtain ⟨h1, h2⟩ := hx a ha
  have := hm a b ha hb
  rcases Nat.lt_or_ge k a.2.1 with hlt | hge
  · refine ⟨fun hk => absurd hk (by omega), fun hk => ?_⟩
    rcases h2 hlt with h2 | ⟨c, h2, h3⟩
    · rw [h2]; rfl
    · rw [h2, Out.ok_bind]; exact hs c h3
  · rw [h1 hge, Out.ok_bind]
    exact hf a ha hge b hb
theorem cut_lst {V V' : Nat → Nat → Out (T × Nat × Nat)} (hS : k ≤ S.length) (hV : VOk S V) (hC : ∀ p cnt, cnt ≤ 1000 → CutV k (V p cnt) (V' p cnt)) : ∀ (f f' p cnt : Nat) (acc : List T), p ≤ k → k + 1 ≤ f' + p → cnt ≤ 1000 → Cut k (fun x => x.2.1) (lstP V S f p cnt acc) (lstP V' (S.take k) f' p cnt acc)
  | 0, _, p, cnt, acc, _, _, _ => Cut.of_stuck
  | f + 1, 0, p, cnt, acc, h1, h2, _ => absurd h2 (by omega)
  | f + 1, f' + 1, p, cnt, acc, h1, h2, hc => by
    rw [lstP, lstP]
    refine CutV.bind (hC p cnt hc) (fun a ha hk => ?_) (fun b hb => ?_) (fun a b ha hb => ?_)
    · have hv := hV p cnt a hc ha
      refine Cut.bind (cut_more _ _) (fun m hm hmk => ?_) (fun m b hm hb => ?_)
      · have := (more_ok hm).1
        split
        · exact cut_lst hS hV hC f f' _ _ _ hmk (by omega) hv.2.2.2
        · exact Cut.ok hmk
      · split at hb
        · exact Nat.le_of_lt (lst_ok hV f _ _ _ b hv.2.2.2 hb).1
        · cases hb; exact Nat.le_refl _
    · rw [more_short hb hS]; rfl
    · have hv := hV p cnt a hc ha
      obtain ⟨m, hm, hb⟩ := Out.bind_ok hb
      have h3 := (more_ok hm).1
      split at hb
      · have := (lst_ok hV f _ _ _ b hv.2.2.2 hb).1
        show a.2.1 < b.2.1
        omega
      · cases hb; exact h3
theorem cut_tab {V V' : Nat → Nat → Out (T × Nat × Nat)} (hS : k ≤ S.length) (hV : VOk S V) (hC : ∀ p cnt, cnt ≤ 1000 → CutV k (V p cnt) (V' p cnt)) : ∀ (f f' p cnt : Nat) (acc : List (List UInt8 × T)), p ≤ k → k + 1 ≤ f' + p → cnt ≤ 1000 → Cut k (fun x => x.2.1) (tabP V S f p cnt acc) (tabP V' (S.take k) f' p cnt acc)
  | 0, _, p, cnt, acc, _, _, _ => Cut.of_stuck
  | f + 1, 0, p, cnt, acc, h1, h2, _ => absurd h2 (by omega)
  | f + 1, f' + 1, p, cnt, acc, h1, h2, hc => by
    have hlen : (S.take k).length = k := by rw [List.length_take]; omega
    have mono : ∀ (a : T × Nat × Nat) key b, a.2.2 ≤ 1000 → ((moreP S 125 a.2.1).bind fun m => if m.1 then tabP V S f m.2 a.2.2 (acc ++ [(key, a.1)]) else .ok (acc ++ [(key, a.1)], m.2, a.2.2)) = .ok b → a.2.1 < b.2.1 := by
      intro a key b ha hb
      obtain ⟨m, hm, hb⟩ := Out.bind_ok hb
      have h3 := (more_ok hm).1
      split at hb
      · have := (tab_ok hV f _ _ _ b ha hb).1
        omega
      · cases hb; exact h3
    have last : ∀ (q : Nat) key b, ((V q cnt).bind fun x => (moreP S 125 x.2.1).bind fun m => if m.1 then tabP V S f m.2 x.2.2 (acc ++ [(key, x.1)]) else .ok (acc ++ [(key, x.1)], m.2, x.2.2)) = .ok b → q < b.2.1 := by
      intro q key b hb
      obtain ⟨a, ha, hb⟩ := Out.bind_ok hb
      have hv := hV q cnt a hc ha
      have := mono a key b hv.2.2.2 hb
      omega
    have snd : ∀ (q : Nat) key b, ((peekP S (blanksP S q)).bind fun c => if c ≠ 58 then .stuck else (V (blanksP S q + 1) cnt).bind fun x => (moreP S 125 x.2.1).bind fun m => if m.1 then tabP V S f m.2 x.2.2 (acc ++ [(key, x.1)]) else .ok (acc ++ [(key, x.1)], m.2, x.2.2)) = .ok b → blanksP S q + 1 < b.2.1 := by
      intro q key b hb
      obtain ⟨c, hcc, hb⟩ := Out.bind_ok hb
      split at hb
      · cases hb
      · exact last _ key b hb
    rw [tabP, tabP]
    refine Cut.pb (F := fun c q => if c ≠ 34 then .stuck else (litP S (S.length + 1) (q + 1) []).bind fun k => if k.1 ∈ acc.map Prod.fst then .stuck else
      (peekP S (blanksP S k.2)).bind fun c => if c ≠ 58 then .stuck else (V (blanksP S k.2 + 1) cnt).bind fun x => (moreP S 125 x.2.1).bind fun m =>
      if m.1 then tabP V S f m.2 x.2.2 (acc ++ [(k.1, x.1)]) else .ok (acc ++ [(k.1, x.1)], m.2, x.2.2))
      (G := fun c q => if c ≠ 34 then .stuck else (litP (S.take k) ((S.take k).length + 1) (q + 1) []).bind fun k' => if k'.1 ∈ acc.map Prod.fst then .stuck else
      (peekP (S.take k) (blanksP (S.take k) k'.2)).bind fun c => if c ≠ 58 then .stuck else (V' (blanksP (S.take k) k'.2 + 1) cnt).bind fun x => (moreP (S.take k) 125 x.2.1).bind fun m =>
      if m.1 then tabP V' (S.take k) f' m.2 x.2.2 (acc ++ [(k'.1, x.1)]) else .ok (acc ++ [(k'.1, x.1)], m.2, x.2.2)) (fun c hcc hk => ?_) (fun c b hcc hb => ?_)
    · split
      · exact Cut.of_stuck
      have hbl := blanks_le S p
      refine Cut.bind (cut_lit _ _ _ _ hk (by rw [hlen]; omega)) (fun key hkey hkk => ?_) (fun key b hkey hb => ?_)
      · have hk1 := (lit_ok _ _ _ _ hkey).1
        split
        · exact Cut.of_stuck
        have hbl2 := blanks_le S key.2
        refine Cut.pb (F := fun c q => if c ≠ 58 then .stuck else (V (q + 1) cnt).bind fun x => (moreP S 125 x.2.1).bind fun m =>
          if m.1 then tabP V S f m.2 x.2.2 (acc ++ [(key.1, x.1)]) else .ok (acc ++ [(key.1, x.1)], m.2, x.2.2))
          (G := fun c q => if c ≠ 58 then .stuck else (V' (q + 1) cnt).bind fun x => (moreP (S.take k) 125 x.2.1).bind fun m =>
          if m.1 then tabP V' (S.take k) f' m.2 x.2.2 (acc ++ [(key.1, x.1)]) else .ok (acc ++ [(key.1, x.1)], m.2, x.2.2)) (fun c2 hc2 hk2 => ?_) (fun c2 b hc2 hb => ?_)
        · split
          · exact Cut.of_stuck
          refine CutV.bind (hC _ cnt hc) (fun a ha hk3 => ?_) (fun b hb => ?_) (fun a b ha hb => ?_)
          · have hv := hV _ cnt a hc ha
            refine Cut.bind (cut_more _ _) (fun m hm hmk => ?_) (fun m b hm hb => ?_)
            · have := (more_ok hm).1
              split
              · exact cut_tab hS hV hC f f' _ _ _ hmk (by omega) hv.2.2.2
              · exact Cut.ok hmk
            · split at hb
              · exact Nat.le_of_lt (tab_ok hV f _ _ _ b hv.2.2.2 hb).1
              · cases hb; exact Nat.le_refl _
          · rw [more_short hb hS]; rfl
          · exact mono a key.1 b (hV _ cnt a hc ha).2.2.2 hb
        · split at hb
          · cases hb
          · exact Nat.le_of_lt (last _ key.1 b hb)
      · split at hb
        · cases hb
        have := snd key.2 key.1 b hb
        have hbl2 := blanks_le S key.2
        show key.2 ≤ b.2.1
        omega
    · split at hb
      · cases hb
      obtain ⟨key, hkey, hb⟩ := Out.bind_ok hb
      split at hb
      · cases hb
      have h1 := (lit_ok _ _ _ _ hkey).1
      have := snd key.2 key.1 b hb
      have hbl2 := blanks_le S key.2
      show blanksP S p + 1 ≤ b.2.1
      omega
def valB (V : Nat → Nat → Out (T × Nat × Nat)) (s : List UInt8) (cnt : Nat) (c : UInt8) (q : Nat) : Out (T × Nat × Nat) :=
  if 1000 ≤ cnt then .stuck
    else if c = 110 then (wordP s kNull q).bind fun q => .ok (T.null, q, cnt + 1)
    else if c = 116 then (wordP s kTrue q).bind fun q => .ok (.mk 1 1 [] [] [], q, cnt + 1)
    else if c = 102 then (wordP s kFalse q).bind fun q => .ok (.mk 1 0 [] [] [], q, cnt + 1)
    else if c = 34 then (litP s (s.length + 1) (q + 1) []).bind fun k => .ok (.mk 3 0 k.1 [] [], k.2, cnt + 1)
    else if c = 91 then (emptyP s 93 q).bind fun e => if e.1 then .ok (.mk 4 0 [] [] [], e.2, cnt + 1) else
      (lstP V s (s.length + 1) e.2 (cnt + 1) []).bind fun l => .ok (.mk 4 0 [] l.1 [], l.2.1, l.2.2)
    else if c = 123 then (emptyP s 125 q).bind fun e => if e.1 then .ok (.mk 5 0 [] [] [], e.2, cnt + 1) else
      (tabP V s (s.length + 1) e.2 (cnt + 1) []).bind fun l => .ok (.mk 5 0 [] ((sortK l.1).map Prod.snd) ((sortK l.1).map Prod.fst), l.2.1, l.2.2)
    else (intP s q).bind fun n => .ok (.mk 2 n.1 [] [] [], n.2, cnt + 1)
theorem valP_succ (f : Nat) (s : List UInt8) (p cnt : Nat) : valP (f + 1) s p cnt = (peekP s (blanksP s p)).bind fun c => valB (valP f s) s cnt c (blanksP s p) := by rw [valP]; rfl
theorem word_ge {w : List UInt8} {p q : Nat} (h : wordP S w p = .ok q) (hw : w ≠ []) : p + 1 ≤ q := by
  have := (word_ok _ _ _ h).1
  have := List.length_pos_iff.2 hw
  omega
theorem valB_ge {V : Nat → Nat → Out (T × Nat × Nat)} (hV : VOk S V) {cnt q : Nat} {c : UInt8} {b : T × Nat × Nat} (h : valB V S cnt c q = .ok b) : q + 1 ≤ b.2.1 := by
  unfold valB at h
  split at h
  · cases h
  rename_i hcnt
  split at h
  · obtain ⟨a, ha, h⟩ := Out.bind_ok h
    cases h; exact word_ge ha (by decide)
  split at h
  · obtain ⟨a, ha, h⟩ := Out.bind_ok h
    cases h; exact word_ge ha (by decide)
  split at h
  · obtain ⟨a, ha, h⟩ := Out.bind_ok h
    cases h; exact word_ge ha (by decide)
  split at h
  · obtain ⟨a, ha, h⟩ := Out.bind_ok h
    cases h; exact Nat.le_of_lt (lit_ok _ _ _ _ ha).1
  split at h
  · obtain ⟨a, ha, h⟩ := Out.bind_ok h
    have h1 := (empty_ok ha).1
    split at h
    · cases h; exact h1
    · obtain ⟨l, hl, h⟩ := Out.bind_ok h
      have h2 := (lst_ok hV _ _ _ _ _ (by omega) hl).1
      cases h; show q + 1 ≤ l.2.1; omega
  split at h
  · obtain ⟨a, ha, h⟩ := Out.bind_ok h
    have h1 := (empty_ok ha).1
    split at h
    · cases h; exact h1
    · obtain ⟨l, hl, h⟩ := Out.bind_ok h
      have h2 := (tab_ok hV _ _ _ _ _ (by omega) hl).1
      cases h; show q + 1 ≤ l.2.1; omega
  · obtain ⟨a, ha, h⟩ := Out.bind_ok h
    cases h; exact (int_ok ha).1
theorem cut_body {V V' : Nat → Nat → Out (T × Nat × Nat)} (hS : k ≤ S.length) (hV : VOk S V) (hC : ∀ p cnt, cnt ≤ 1000 → CutV k (V p cnt) (V' p cnt)) (cnt : Nat) (c : UInt8) (q : Nat) (hq : q + 1 ≤ k) :
    Cut k (fun x => x.2.1) (valB V S cnt c q) (valB V' (S.take k) cnt c q) ∨ (CutV k (valB V S cnt c q) (valB V' (S.take k) cnt c q) ∧ c ≠ 34 ∧ c ≠ 91 ∧ c ≠ 123) := by
  have hlen : (S.take k).length = k := by rw [List.length_take]; omega
  unfold valB
  split
  · exact .inl Cut.of_stuck
  rename_i hcnt
  split
  · exact .inl (Cut.bind (cut_word _ _ (by omega)) (fun a ha hk => Cut.ok hk) fun a b ha hb => by cases hb; exact Nat.le_refl _)
  split
  · exact .inl (Cut.bind (cut_word _ _ (by omega)) (fun a ha hk => Cut.ok hk) fun a b ha hb => by cases hb; exact Nat.le_refl _)
  split
  · exact .inl (Cut.bind (cut_word _ _ (by omega)) (fun a ha hk => Cut.ok hk) fun a b ha hb => by cases hb; exact Nat.le_refl _)
  split
  · exact .inl (Cut.bind (cut_lit _ _ _ _ hq (by rw [hlen]; omega)) (fun a ha hk => Cut.ok hk) fun a b ha hb => by cases hb; exact Nat.le_refl _)
  split
  · refine .inl (Cut.bind (cut_empty _ _) (fun e he hk => ?_) fun e b he hb => ?_)
    · split
      · rename_i h1
        unfold ePos at hk
        rw [if_pos h1] at hk
        exact Cut.ok hk
      · rename_i h1
        unfold ePos at hk
        rw [if_neg h1] at hk
        exact Cut.bind (cut_lst hS hV hC _ _ _ _ _ (by omega) (by rw [hlen]; omega) (by omega)) (fun a ha hk => Cut.ok hk) fun a b ha hb => by cases hb; exact Nat.le_refl _
    · unfold ePos
      split at hb
      · rename_i h1; rw [if_pos h1]; cases hb; exact Nat.le_refl _
      · rename_i h1; rw [if_neg h1]
        obtain ⟨l, hl, hb⟩ := Out.bind_ok hb
        have := (lst_ok hV _ _ _ _ _ (by omega) hl).1
        cases hb; exact this
  split
  · refine .inl (Cut.bind (cut_empty _ _) (fun e he hk => ?_) fun e b he hb => ?_)
    · split
      · rename_i h1
        unfold ePos at hk
        rw [if_pos h1] at hk
        exact Cut.ok hk
      · rename_i h1
        unfold ePos at hk
        rw [if_neg h1] at hk
        exact Cut.bind (cut_tab hS hV hC _ _ _ _ _ (by omega) (by rw [hlen]; omega) (by omega)) (fun a ha hk => Cut.ok hk) fun a b ha hb => by cases hb; exact Nat.le_refl _
    · unfold ePos
      split at hb
      · rename_i h1; rw [if_pos h1]; cases hb; exact Nat.le_refl _
      · rename_i h1; rw [if_neg h1]
        obtain ⟨l, hl, hb⟩ := Out.bind_ok hb
        have := (tab_ok hV _ _ _ _ _ (by omega) hl).1
        cases hb; exact this
  rename_i n1 n2 n3 n4 n5 n6
  refine .inr ⟨?_, n4, n5, n6⟩
  intro a ha
  obtain ⟨x, hx, ha⟩ := Out.bind_ok ha
  obtain ⟨h1, h2⟩ := cut_int hS q x hx
  cases ha
  refine ⟨fun hk => by rw [h1 hk]; rfl, fun hk => ?_⟩
  rcases h2 hk with h2 | ⟨n, h2⟩
  · exact .inl (by rw [h2]; rfl)
  · exact .inr ⟨_, by rw [h2]; rfl, Nat.le_refl _⟩
theorem cut_val (hS : k ≤ S.length) : ∀ (f p cnt : Nat), cnt ≤ 1000 → CutV k (valP f S p cnt) (valP f (S.take k) p cnt) ∧ (∀ c, peekP S (blanksP S p) = .ok c → c = 34 ∨ c = 91 ∨ c = 123 → Cut k (fun x => x.2.1) (valP f S p cnt) (valP f (S.take k) p cnt))
  | 0, p, cnt, _ => by
    have e : ∀ s, valP 0 s p cnt = .stuck := fun s => by rw [valP]
    rw [e]
    exact ⟨fun a h => (by cases h), fun c _ _ a h => (by cases h)⟩
  | f + 1, p, cnt, hc => by
    have hV := val_ok S f
    have hC : ∀ p cnt, cnt ≤ 1000 → CutV k (valP f S p cnt) (valP f (S.take k) p cnt) := fun p cnt h => (cut_val hS f p cnt h).1
    rw [valP_succ, valP_succ]
    have key : ∀ c, peekP S (blanksP S p) = .ok c → (∀ b, valB (valP f S) S cnt c (blanksP S p) = .ok b → blanksP S p + 1 ≤ b.2.1) := fun c hcc b hb => valB_ge hV hb
    refine ⟨fun a ha => ?_, fun c hcc h3 => ?_⟩
    · obtain ⟨c, hcc, hb⟩ := Out.bind_ok ha
      obtain ⟨h1, h2⟩ := cut_pb (k := k) p c hcc
      have hle := key c hcc a hb
      have hbl := blanks_le S p
      rcases Nat.lt_or_ge k (blanksP S p + 1) with hlt | hge
      · exact ⟨fun hk => absurd hk (by omega), fun hk => .inl (by rw [h2 hlt]; rfl)⟩
      · have e : blanksP (S.take k) p = blanksP S p := by rw [cut_blanks, if_pos (by omega)]; omega
        rw [h1 hge, Out.ok_bind, e]
        rcases cut_body hS hV hC cnt c (blanksP S p) hge with h | ⟨h, _⟩
        · exact h.v a hb
        · exact h a hb
    · refine Cut.pb (F := fun c q => valB (valP f S) S cnt c q) (G := fun c q => valB (valP f (S.take k)) (S.take k) cnt c q) (fun c' hc' hk => ?_) fun c b h1 h2 => key c h1 b h2
      have : c' = c := by rw [hcc] at hc'; cases hc'; rfl
      subst this
      rcases cut_body hS hV hC cnt c' (blanksP S p) hk with h | ⟨_, n1, n2, n3⟩
      · exact h
      · rcases h3 with h | h | h
        · exact absurd h n1
        · exact absurd h n2
        · exact absurd h n3
end
end Go.Proofs.YthkfnmmbjoadbaaGreatDoor
/- WholeTexts: the parser reads every text of a payload. -/
set_option linter.unusedVariables false
set_option linter.unusedSimpArgs false
set_option maxRecDepth 100000
namespace Go.Proofs.YthkfnmmbjoadbaaGreatDoor
open Go Go.SX

theorem join_cons2 (sep x y : List UInt8) (r : List (List UInt8)) : joinB sep (x :: y :: r) = x ++ (sep ++ joinB sep (y :: r)) := by
  simp [joinB]
theorem join_one (sep x : List UInt8) : joinB sep [x] = x := by simp [joinB]
section
variable {S : List UInt8}
/-- A reader of a kind of texts. -/
def VR (S : List UInt8) (V : Nat → Nat → Out (T × Nat × Nat)) (R : T → List UInt8 → Prop) : Prop :=
  ∀ t x p cnt a r, R t x → Blank a → S.drop p = a ++ (x ++ r) → (∀ c, r.head? = some c → isDigit c = false) → cnt + t.siz ≤ 1000 → V p cnt = .ok (t, p + a.length + x.length, cnt + t.siz)
theorem blank_head {b r : List UInt8} {e : UInt8} (hb : Blank b) (he : isDigit e = false) : ∀ c, (b ++ ([e] ++ r)).head? = some c → isDigit c = false := by
  intro c hc
  cases b with
  | nil => simp at hc; subst hc; exact he
  | cons d b =>
    simp at hc
    subst hc
    have := hb d List.mem_cons_self
    have key : ∀ n : Fin 256, isBlank (UInt8.ofNat n.val) = true → isDigit (UInt8.ofNat n.val) = false := by decide +kernel
    have h2 := key ⟨d.toNat, d.toNat_lt⟩
    simp only [UInt8.ofNat_toNat] at h2
    exact h2 this
theorem at_lst {V : Nat → Nat → Out (T × Nat × Nat)} {R : T → List UInt8 → Prop} (hV : VR S V R) : ∀ (qs : List (T × List UInt8)) (f p cnt : Nat) (acc : List T) (r : List UInt8), qs ≠ [] → (∀ q ∈ qs, LPart R q) → S.drop p = joinB [44] (qs.map Prod.snd) ++ ([93] ++ r) → (joinB [44] (qs.map Prod.snd)).length + 1 ≤ f → cnt + sizs (qs.map Prod.fst) ≤ 1000 →
    lstP V S f p cnt acc = .ok (acc ++ qs.map Prod.fst, p + (joinB [44] (qs.map Prod.snd)).length + 1, cnt + sizs (qs.map Prod.fst))
  | [], f, p, cnt, acc, r, h, _, _, _, _ => absurd rfl h
  | [q], 0, p, cnt, acc, r, _, _, _, hf, _ => absurd hf (by omega)
  | [q], f + 1, p, cnt, acc, r, _, hq, hd, hf, hc => by
    obtain ⟨a, x, b, ha, hb, hR, hx⟩ := hq q List.mem_cons_self
    simp only [List.map_cons, List.map_nil, join_one, sizs, Nat.add_zero] at hd hf hc ⊢
    rw [hx] at hd ⊢
    rw [List.append_assoc, List.append_assoc] at hd
    have h1 := hV _ x p cnt a _ hR ha hd (blank_head hb (by decide)) hc
    have h2 : S.drop (p + a.length + x.length) = b ++ ([93] ++ r) := at_drop (at_drop hd)
    rw [lstP, h1, Out.ok_bind, at_more h2 hb (by decide) (by decide), Out.ok_bind, if_neg (by simp)]
    simp only [List.length_append]
    rw [show p + a.length + x.length + b.length + 1 = p + (a.length + x.length + b.length) + 1 by omega]
  | q :: q2 :: qs, 0, p, cnt, acc, r, _, _, _, hf, _ => absurd hf (by omega)
  | q :: q2 :: qs, f + 1, p, cnt, acc, r, _, hq, hd, hf, hc => by
    obtain ⟨a, x, b, ha, hb, hR, hx⟩ := hq q List.mem_cons_self
    have hc2 : cnt + (q.1.siz + sizs ((q2 :: qs).map Prod.fst)) ≤ 1000 := hc
    obtain ⟨J, hJ⟩ : ∃ J, J = joinB [44] ((q2 :: qs).map Prod.snd) := ⟨_, rfl⟩
    have hj : joinB [44] ((q :: q2 :: qs).map Prod.snd) = (a ++ x ++ b) ++ ([44] ++ J) := by rw [← hx, hJ]; exact join_cons2 _ _ _ _
    rw [hj] at hd hf ⊢
    have hd' : S.drop p = a ++ (x ++ (b ++ ([44] ++ (J ++ ([93] ++ r))))) := by rw [hd]; simp only [List.append_assoc]
    have h1 := hV _ x p cnt a _ hR ha hd' (blank_head hb (by decide)) (by omega)
    have h2 : S.drop (p + a.length + x.length) = b ++ ([44] ++ (J ++ ([93] ++ r))) := at_drop (at_drop hd')
    have h3 : S.drop (p + a.length + x.length + b.length + 1) = J ++ ([93] ++ r) := at_drop1 (at_drop h2)
    simp only [List.length_append, List.length_cons, List.length_nil] at hf
    rw [hJ] at h3
    rw [lstP, h1, Out.ok_bind, at_comma h2 hb, Out.ok_bind, if_pos rfl]
    have ih := at_lst hV (q2 :: qs) f _ (cnt + q.1.siz) (acc ++ [q.1]) r (by simp) (fun y hy => hq y (List.mem_cons_of_mem _ hy)) h3 (by rw [← hJ]; omega) (by omega)
    rw [ih, ← hJ]
    simp only [List.map_cons, sizs, List.length_append, List.length_cons, List.length_nil, List.append_assoc, List.cons_append, List.nil_append]
    rw [show p + a.length + x.length + b.length + 1 + J.length + 1 = p + (a.length + (x.length + (b.length + (J.length + 1)))) + 1 by omega]
    simp only [Nat.add_assoc]
theorem at_tab {V : Nat → Nat → Out (T × Nat × Nat)} {R : T → List UInt8 → Prop} (hV : VR S V R) : ∀ (qs : List ((List UInt8 × T) × List UInt8)) (f p cnt : Nat) (acc : List (List UInt8 × T)) (r : List UInt8), qs ≠ [] → (∀ q ∈ qs, MPart R q) → ((acc ++ qs.map Prod.fst).map Prod.fst).Nodup → S.drop p = joinB [44] (qs.map Prod.snd) ++ ([125] ++ r) → (joinB [44] (qs.map Prod.snd)).length + 1 ≤ f → cnt + sizs ((qs.map Prod.fst).map Prod.snd) ≤ 1000 →
    tabP V S f p cnt acc = .ok (acc ++ qs.map Prod.fst, p + (joinB [44] (qs.map Prod.snd)).length + 1, cnt + sizs ((qs.map Prod.fst).map Prod.snd))
  | [], f, p, cnt, acc, r, h, _, _, _, _, _ => absurd rfl h
  | q :: qs, 0, p, cnt, acc, r, _, _, _, _, hf, _ => absurd hf (by omega)
  | q :: qs, f + 1, p, cnt, acc, r, _, hq, hn, hd, hf, hc => by
    obtain ⟨a, k, b, c, x, d, ha, hb, hcb, hdb, hkl, hk, hR, hx⟩ := hq q List.mem_cons_self
    have hc2 : cnt + (q.1.2.siz + sizs ((qs.map Prod.fst).map Prod.snd)) ≤ 1000 := hc
    have hnot : q.1.1 ∉ acc.map Prod.fst := fun hm => by
      rw [List.map_append] at hn
      have := (List.nodup_append.1 hn).2.2 _ hm q.1.1 (by simp)
      exact this rfl
    obtain ⟨J, hJ⟩ : ∃ J, joinB [44] ((q :: qs).map Prod.snd) = a ++ (k ++ (b ++ ([58] ++ (c ++ (x ++ (d ++ J)))))) ∧ ((qs = [] ∧ J = []) ∨ (∃ q2 qs', qs = q2 :: qs' ∧ J = [44] ++ joinB [44] (qs.map Prod.snd))) := by
      cases qs with
      | nil => exact ⟨[], by simp [join_one, hx], .inl ⟨rfl, rfl⟩⟩
      | cons q2 qs' => exact ⟨[44] ++ joinB [44] ((q2 :: qs').map Prod.snd), by rw [List.map_cons, List.map_cons, join_cons2, hx]; simp only [List.append_assoc, List.map_cons], .inr ⟨q2, qs', rfl, rfl⟩⟩
    obtain ⟨hj, hJ⟩ := hJ
    rw [hj] at hd hf ⊢
    have hd' : S.drop p = a ++ (k ++ (b ++ ([58] ++ (c ++ (x ++ (d ++ (J ++ ([125] ++ r)))))))) := by rw [hd]; simp only [List.append_assoc]
    obtain ⟨ky, hky, hk34⟩ : ∃ ky, k = 34 :: ky ∧ True := by
      obtain ⟨y, _, rfl⟩ := hk
      exact ⟨y ++ [34], by simp, trivial⟩
    have hbl := at_blanks hd' ha (by intro c' h'; rw [hky] at h'; simp at h'; subst h'; rfl)
    have h1 := at_drop hd'
    obtain ⟨p1, hp1⟩ : ∃ p1, p1 = p + a.length := ⟨_, rfl⟩
    rw [← hp1] at hbl h1
    obtain ⟨g1, g2⟩ := at_quo hk h1 hkl
    have h2 := at_drop h1
    obtain ⟨p2, hp2⟩ : ∃ p2, p2 = p1 + k.length := ⟨_, rfl⟩
    rw [← hp2] at g2 h2
    have hbl2 := at_blanks h2 hb (by intro c' h'; simp at h'; subst h'; rfl)
    have h3 := at_drop h2
    obtain ⟨p3, hp3⟩ : ∃ p3, p3 = p2 + b.length := ⟨_, rfl⟩
    rw [← hp3] at hbl2 h3
    have h4 := at_drop1 h3
    have hv := hV q.1.2 x (p3 + 1) cnt c _ hR hcb h4 (by
      rcases hJ with ⟨_, rfl⟩ | ⟨q2, qs', _, rfl⟩
      · exact blank_head hdb (by decide)
      · rw [List.append_assoc]; exact blank_head hdb (by decide)) (by omega)
    have h5 : S.drop (p3 + 1 + c.length + x.length) = d ++ (J ++ ([125] ++ r)) := at_drop (at_drop h4)
    obtain ⟨p4, hp4⟩ : ∃ p4, p4 = p3 + 1 + c.length + x.length := ⟨_, rfl⟩
    rw [← hp4] at hv h5
    have hat : peekP S p3 = .ok 58 := at_peek h3
    rw [tabP, hbl, g1, Out.ok_bind, if_neg (by simp), g2, Out.ok_bind, if_neg hnot]
    dsimp only
    rw [hbl2, hat, Out.ok_bind, if_neg (by simp), hv, Out.ok_bind]
    dsimp only
    simp only [List.length_append, List.length_cons, List.length_nil] at hf
    rcases hJ with ⟨rfl, rfl⟩ | ⟨q2, qs', hqs, hJ⟩
    · have h6 : S.drop p4 = d ++ ([125] ++ r) := h5
      rw [at_more h6 hdb (by decide) (by decide), Out.ok_bind, if_neg (by simp)]
      simp only [List.map_cons, List.map_nil, sizs, Nat.add_zero, List.length_append, List.length_cons, List.length_nil]
      congr 3
      omega
    · rw [hJ] at h5 hf ⊢
      have h6 : S.drop p4 = d ++ ([44] ++ (joinB [44] (qs.map Prod.snd) ++ ([125] ++ r))) := by rw [h5]; simp only [List.append_assoc]
      have h7 := at_drop1 (at_drop h6)
      rw [at_comma h6 hdb, Out.ok_bind, if_pos rfl]
      simp only [List.length_append, List.length_cons, List.length_nil] at hf
      have ih := at_tab hV qs f _ (cnt + q.1.2.siz) (acc ++ [(q.1.1, q.1.2)]) r (by rw [hqs]; simp) (fun y hy => hq y (List.mem_cons_of_mem _ hy)) (by simpa using hn) h7 (by omega) (by omega)
      rw [ih]
      simp only [List.map_cons, sizs, List.length_append, List.length_cons, List.length_nil, List.append_assoc, List.cons_append, List.nil_append]
      congr 3
      · omega
      · omega
theorem head_ne {b : UInt8} : ∀ n : Fin 256, True := fun _ => trivial
theorem lo_head {d : Nat} {t : T} {x : List UInt8} (h : Lo d t x) : ∃ c y, x = c :: y ∧ isBlank c = false ∧ c ≠ 93 ∧ c ≠ 125 ∧ (3 ≤ t.kind → c = 34 ∨ c = 91 ∨ c = 123) := by
  have hp : Prim t x → ∃ c y, x = c :: y ∧ isBlank c = false ∧ c ≠ 93 ∧ c ≠ 125 ∧ (3 ≤ t.kind → c = 34 ∨ c = 91 ∨ c = 123) := by
    rintro (⟨rfl, rfl⟩ | ⟨rfl, rfl⟩ | ⟨rfl, rfl⟩ | ⟨n, h1, h2, rfl, rfl⟩ | ⟨s, hs, rfl, y, hy, rfl⟩)
    · exact ⟨_, _, rfl, by decide, by decide, by decide, fun h => absurd h (by decide)⟩
    · exact ⟨_, _, rfl, by decide, by decide, by decide, fun h => absurd h (by decide)⟩
    · exact ⟨_, _, rfl, by decide, by decide, by decide, fun h => absurd h (by decide)⟩
    · unfold Lib.itoa
      split
      · exact ⟨_, _, rfl, by decide, by decide, by decide, fun h => absurd h (by show ¬ (3 : Int) ≤ 2; decide)⟩
      · obtain ⟨c, r, h3, _⟩ := dec_cons n.toNat
        have hc := dec_dig n.toNat c (by rw [h3]; exact List.mem_cons_self)
        refine ⟨c, r, h3, ?_, fun e => ?_, fun e => ?_, fun h => absurd h (by show ¬ (3 : Int) ≤ 2; decide)⟩
        · cases hb : isBlank c with
          | false => rfl
          | true =>
            have := blank_head (b := [c]) (r := []) (e := 44) (fun c' h' => by rw [List.mem_singleton.1 h']; exact hb) (by decide) c rfl
            rw [hc] at this
            cases this
        · rw [e] at hc; exact absurd hc (by decide)
        · rw [e] at hc; exact absurd hc (by decide)
    · exact ⟨34, y ++ [34], by simp, by decide, by decide, by decide, fun _ => .inl rfl⟩
  cases d with
  | zero => exact hp h
  | succ d =>
    rcases h with h | ⟨b, _, ⟨rfl, rfl⟩ | ⟨rfl, rfl⟩⟩ | ⟨qs, _, rfl, _, rfl⟩ | ⟨qs, _, rfl, _, _, rfl⟩
    · exact hp h
    · exact ⟨91, b ++ [93], by simp, by decide, by decide, by decide, fun _ => .inr (.inl rfl)⟩
    · exact ⟨123, b ++ [125], by simp, by decide, by decide, by decide, fun _ => .inr (.inr rfl)⟩
    · exact ⟨91, joinB [44] (qs.map Prod.snd) ++ [93], by simp, by decide, by decide, by decide, fun _ => .inr (.inl rfl)⟩
    · exact ⟨123, joinB [44] (qs.map Prod.snd) ++ [125], by simp, by decide, by decide, by decide, fun _ => .inr (.inr rfl)⟩
theorem siz_pos (t : T) : 1 ≤ t.siz := by cases t; rw [T.siz]; omega
theorem sizs_ins (x : List UInt8 × T) : ∀ (l : List (List UInt8 × T)), sizs ((insK x l).map Prod.snd) = x.2.siz + sizs (l.map Prod.snd)
  | [] => by simp [insK, sizs]
  | y :: r => by
    rw [insK]
    split
    · simp [sizs]
    · have := sizs_ins x r
      simp only [List.map_cons, sizs] at this ⊢
      omega
theorem sizs_sort : ∀ (l : List (List UInt8 × T)), sizs ((sortK l).map Prod.snd) = sizs (l.map Prod.snd)
  | [] => rfl
  | x :: r => by
    show sizs ((insK x (sortK r)).map Prod.snd) = _
    rw [sizs_ins, sizs_sort r]
    rfl
/-- The blanks ahead of the first part are read with the bracket. -/
theorem lead_l {d : Nat} {qs : List (T × List UInt8)} (h0 : qs ≠ []) (h : ∀ q ∈ qs, LPart (Lo d) q) : ∃ a qs', Blank a ∧ qs' ≠ [] ∧ (∀ q ∈ qs', LPart (Lo d) q) ∧ qs'.map Prod.fst = qs.map Prod.fst ∧ joinB [44] (qs.map Prod.snd) = a ++ joinB [44] (qs'.map Prod.snd) ∧ ∃ c y, joinB [44] (qs'.map Prod.snd) = c :: y ∧ isBlank c = false ∧ c ≠ 93 := by
  cases qs with
  | nil => exact absurd rfl h0
  | cons q r =>
    obtain ⟨a, x, b, ha, hb, hR, hx⟩ := h q List.mem_cons_self
    refine ⟨a, (q.1, x ++ b) :: r, ha, by simp, fun y hy => ?_, by simp, by simp [joinB, hx], ?_⟩
    · rcases List.mem_cons.1 hy with rfl | hy
      · exact ⟨[], x, b, (fun c hc => by cases hc), hb, hR, by simp⟩
      · exact h y (List.mem_cons_of_mem _ hy)
    · obtain ⟨c, y, h1, h2, h3, _, _⟩ := lo_head hR
      exact ⟨c, _, by simp [joinB, h1]; rfl, h2, h3⟩
theorem lead_m {d : Nat} {qs : List ((List UInt8 × T) × List UInt8)} (h0 : qs ≠ []) (h : ∀ q ∈ qs, MPart (Lo d) q) : ∃ a qs', Blank a ∧ qs' ≠ [] ∧ (∀ q ∈ qs', MPart (Lo d) q) ∧ qs'.map Prod.fst = qs.map Prod.fst ∧ joinB [44] (qs.map Prod.snd) = a ++ joinB [44] (qs'.map Prod.snd) ∧ ∃ y, joinB [44] (qs'.map Prod.snd) = 34 :: y := by
  cases qs with
  | nil => exact absurd rfl h0
  | cons q r =>
    obtain ⟨a, k, b, c, x, e, ha, hb, hc, he, hkl, hk, hR, hx⟩ := h q List.mem_cons_self
    refine ⟨a, (q.1, k ++ b ++ [58] ++ (c ++ x ++ e)) :: r, ha, by simp, fun y hy => ?_, by simp, by simp [joinB, hx], ?_⟩
    · rcases List.mem_cons.1 hy with rfl | hy
      · exact ⟨[], k, b, c, x, e, (fun c hc => by cases hc), hb, hc, he, hkl, hk, hR, by simp⟩
      · exact h y (List.mem_cons_of_mem _ hy)
    · obtain ⟨y, _, rfl⟩ := hk
      exact ⟨_, by simp [joinB]; rfl⟩
theorem valB_prim {V : Nat → Nat → Out (T × Nat × Nat)} {t : T} {x y r : List UInt8} {c : UInt8} {q cnt : Nat} (h : Prim t x) (hd : S.drop q = x ++ r) (hr : ∀ c, r.head? = some c → isDigit c = false) (hx : x = c :: y) (hc : cnt + t.siz ≤ 1000) : valB V S cnt c q = .ok (t, q + x.length, cnt + t.siz) := by
  have hcnt : ¬ 1000 ≤ cnt := by have := siz_pos t; omega
  unfold valB
  rw [if_neg hcnt]
  rcases h with ⟨rfl, rfl⟩ | ⟨rfl, rfl⟩ | ⟨rfl, rfl⟩ | ⟨n, h1, h2, rfl, rfl⟩ | ⟨s, hs, rfl, hq⟩
  · injection hx with hx _
    subst hx
    rw [if_pos rfl, at_word _ hd]; rfl
  · injection hx with hx _
    subst hx
    rw [if_neg (by decide), if_pos rfl, at_word _ hd]; rfl
  · injection hx with hx _
    subst hx
    rw [if_neg (by decide), if_neg (by decide), if_pos rfl, at_word _ hd]; rfl
  · have hcd : c = 45 ∨ isDigit c = true := by
      unfold Lib.itoa at hx
      split at hx
      · injection hx with hx _; exact .inl hx.symm
      · exact .inr (dec_dig n.toNat c (by rw [hx]; exact List.mem_cons_self))
    have ne : ∀ k : UInt8, k ≠ 45 → isDigit k = false → c ≠ k := fun k h1 h2 e => by
      subst e
      rcases hcd with h | h
      · exact h1 h
      · rw [h2] at h; cases h
    rw [if_neg (ne _ (by decide) (by decide)), if_neg (ne _ (by decide) (by decide)), if_neg (ne _ (by decide) (by decide)), if_neg (ne _ (by decide) (by decide)), if_neg (ne _ (by decide) (by decide)), if_neg (ne _ (by decide) (by decide)), at_int h1 h2 hd hr]
    rfl
  · have hx2 := hx
    obtain ⟨_, h2⟩ := at_quo hq hd hs
    obtain ⟨y', _, hy'⟩ := hq
    rw [hy'] at hx2
    have : c = 34 := by simp at hx2; exact hx2.1.symm
    subst this
    rw [if_neg (by decide), if_neg (by decide), if_neg (by decide), if_pos rfl, h2]; rfl
theorem at_nil {q : Nat} {b r : List UInt8} {o e : UInt8} (hd : S.drop q = [o] ++ (b ++ ([e] ++ r))) (hb : Blank b) (he : isBlank e = false) : emptyP S e q = .ok (true, q + ([o] ++ b ++ [e]).length) := by
  have h1 : S.drop (q + 1) = b ++ ([e] ++ r) := at_drop1 hd
  have h2 := at_blanks h1 hb (by intro c' h'; simp at h'; subst h'; exact he)
  unfold emptyP
  rw [h2, at_peek (at_drop h1), Out.ok_bind, if_pos rfl]
  simp only [List.length_append, List.length_cons, List.length_nil]
  rw [show q + 1 + b.length + 1 = q + (0 + 1 + b.length + (0 + 1)) by omega]
theorem at_some {q : Nat} {a r : List UInt8} {o e c : UInt8} (hd : S.drop q = [o] ++ (a ++ (c :: r))) (ha : Blank a) (hc : isBlank c = false) (hce : c ≠ e) : emptyP S e q = .ok (false, q + 1 + a.length) := by
  have h1 : S.drop (q + 1) = a ++ (c :: r) := at_drop1 hd
  have h2 := at_blanks h1 ha (by intro c' h'; simp at h'; subst h'; exact hc)
  unfold emptyP
  rw [h2, at_peek (at_drop h1), Out.ok_bind, if_neg hce]
theorem lo_body {d : Nat} {V : Nat → Nat → Out (T × Nat × Nat)} (hV : ∀ d', d = d' + 1 → VR S V (Lo d')) {t : T} {x y r : List UInt8} {c : UInt8} {q cnt : Nat} (h : Lo d t x) (hd : S.drop q = x ++ r) (hr : ∀ c, r.head? = some c → isDigit c = false) (hx : x = c :: y) (hc : cnt + t.siz ≤ 1000) : valB V S cnt c q = .ok (t, q + x.length, cnt + t.siz) := by
  have hcnt : ¬ 1000 ≤ cnt := by have := siz_pos t; omega
  cases d with
  | zero => exact valB_prim h hd hr hx hc
  | succ d =>
    have hV := hV d rfl
    have hSl : ∀ (z : List UInt8), z.length ≤ x.length → z.length ≤ S.length := fun z hz => by
      have := congrArg List.length hd
      rw [List.length_drop, List.length_append] at this
      omega
    rcases h with h | ⟨b, hb, ⟨rfl, rfl⟩ | ⟨rfl, rfl⟩⟩ | ⟨qs, hqs, rfl, hq, hx0⟩ | ⟨qs, hqs, rfl, hn, hq, hx0⟩
    · exact valB_prim h hd hr hx hc
    · simp only [List.append_assoc] at hx hd
      injection hx with hx _
      subst hx
      unfold valB
      rw [if_neg hcnt, if_neg (by decide), if_neg (by decide), if_neg (by decide), if_neg (by decide), if_pos rfl, at_nil hd hb (by decide), Out.ok_bind, if_pos rfl]
      rfl
    · simp only [List.append_assoc] at hx hd
      injection hx with hx _
      subst hx
      unfold valB
      rw [if_neg hcnt, if_neg (by decide), if_neg (by decide), if_neg (by decide), if_neg (by decide), if_neg (by decide), if_pos rfl, at_nil hd hb (by decide), Out.ok_bind, if_pos rfl]
      rfl
    · obtain ⟨a, qs', ha, hne, hq', hf, hj, e, z, hz, he1, he2⟩ := lead_l hqs hq
      have hjl : (joinB [44] (qs'.map Prod.snd)).length ≤ S.length := hSl _ (by rw [hx0, hj]; simp only [List.length_append]; omega)
      rw [hx0, hj] at hd
      simp only [List.append_assoc] at hd
      have hc91 : c = 91 := by rw [hx0] at hx; simp at hx; exact hx.1.symm
      subst hc91
      have hd1 : S.drop q = [91] ++ (a ++ (e :: (z ++ ([93] ++ r)))) := by rw [hd, hz]; rfl
      have hd2 : S.drop (q + 1 + a.length) = joinB [44] (qs'.map Prod.snd) ++ ([93] ++ r) := at_drop (at_drop1 hd)
      rw [← hf] at hc ⊢
      have hsz : (T.mk 4 0 [] (qs'.map Prod.fst) []).siz = 1 + sizs (qs'.map Prod.fst) := by rw [T.siz]
      rw [hsz] at hc ⊢
      have hl := at_lst hV qs' (S.length + 1) (q + 1 + a.length) (cnt + 1) [] r hne hq' hd2 (by omega) (by omega)
      unfold valB
      rw [if_neg hcnt, if_neg (by decide), if_neg (by decide), if_neg (by decide), if_neg (by decide), if_pos rfl, at_some hd1 ha he1 he2, Out.ok_bind, if_neg (by simp)]
      dsimp only
      rw [hl, Out.ok_bind, List.nil_append, hx0, hj]
      simp only [List.length_append, List.length_cons, List.length_nil]
      congr 3
      · omega
      · omega
    · obtain ⟨a, qs', ha, hne, hq', hf, hj, z, hz⟩ := lead_m hqs hq
      have hjl : (joinB [44] (qs'.map Prod.snd)).length ≤ S.length := hSl _ (by rw [hx0, hj]; simp only [List.length_append]; omega)
      rw [hx0, hj] at hd
      simp only [List.append_assoc] at hd
      have hc91 : c = 123 := by rw [hx0] at hx; simp at hx; exact hx.1.symm
      subst hc91
      have hd1 : S.drop q = [123] ++ (a ++ (34 :: (z ++ ([125] ++ r)))) := by rw [hd, hz]; rfl
      have hd2 : S.drop (q + 1 + a.length) = joinB [44] (qs'.map Prod.snd) ++ ([125] ++ r) := at_drop (at_drop1 hd)
      rw [← hf] at hc hn ⊢
      have hsz : (T.mk 5 0 [] ((sortK (qs'.map Prod.fst)).map Prod.snd) ((sortK (qs'.map Prod.fst)).map Prod.fst)).siz = 1 + sizs ((qs'.map Prod.fst).map Prod.snd) := by rw [T.siz, sizs_sort]
      rw [hsz] at hc ⊢
      have hl := at_tab hV qs' (S.length + 1) (q + 1 + a.length) (cnt + 1) [] r hne hq' (by rw [List.nil_append]; exact hn) hd2 (by omega) (by omega)
      unfold valB
      rw [if_neg hcnt, if_neg (by decide), if_neg (by decide), if_neg (by decide), if_neg (by decide), if_neg (by decide), if_pos rfl, at_some hd1 ha (by decide) (by decide), Out.ok_bind, if_neg (by simp)]
      dsimp only
      rw [hl, Out.ok_bind, List.nil_append, hx0, hj]
      simp only [List.length_append, List.length_cons, List.length_nil]
      congr 3
      · omega
      · omega
theorem lo_val : ∀ (f d : Nat), d < f → VR S (valP f S) (Lo d)
  | 0, d, h => absurd h (by omega)
  | f + 1, d, h => by
    intro t x p cnt a r hL ha hd hr hc
    obtain ⟨c, y, hx, hb, _, _, _⟩ := lo_head hL
    have hbl := at_blanks hd ha (by intro c' h'; rw [hx] at h'; simp at h'; subst h'; exact hb)
    have h1 := at_drop hd
    have hpk : peekP S (p + a.length) = .ok c := at_peek (r := y ++ r) (by rw [h1, hx]; rfl)
    rw [valP_succ, hbl, hpk, Out.ok_bind]
    exact lo_body (fun d' hd' => lo_val f d' (by omega)) hL h1 hr hx hc
end
end Go.Proofs.YthkfnmmbjoadbaaGreatDoor
/- WholeTexts: the canonical text is such a text. -/
set_option linter.unusedVariables false
set_option linter.unusedSimpArgs false
set_option maxRecDepth 100000
namespace Go.Proofs.YthkfnmmbjoadbaaGreatDoor
open Go Go.SX

theorem qb_can : ∀ (s : List UInt8), QB s (s.flatMap byteT)
  | [] => .nil
  | c :: r => by rw [List.flatMap_cons]; exact .cons c r _ _ (.inl rfl) (qb_can r)
theorem quo_can (s : List UInt8) : Quo s (quoteT s) := ⟨_, qb_can s, rfl⟩
theorem blank_nil : Blank [] := fun c h => by cases h
theorem blank_sp : Blank [32] := fun c h => by rw [List.mem_singleton.1 h]; rfl
theorem asc_nodup {l : List (List UInt8)} (h : Asc l) : l.Nodup := List.Pairwise.imp (fun {a b} h e => by subst e; exact List.lt_irrefl a h) h
theorem zip_fst {α β : Type} : ∀ (l : List α) (r : List β), l.length = r.length → (l.zip r).map Prod.fst = l
  | [], r, _ => by simp
  | a :: l, [], h => by simp at h
  | a :: l, b :: r, h => by simp; exact zip_fst l r (by simpa using h)
theorem zip_snd {α β : Type} : ∀ (l : List α) (r : List β), l.length = r.length → (l.zip r).map Prod.snd = r
  | [], [], _ => rfl
  | [], b :: r, h => by simp at h
  | a :: l, [], h => by simp at h
  | a :: l, b :: r, h => by simp; exact zip_snd l r (by simpa using h)
/-- What is sorted already. -/
theorem sortK_same {l m : List (List UInt8 × T)} (h : l.Perm m) (hm : Asc (m.map Prod.fst)) : sortK l = m := by
  have h2 : AscP m := List.pairwise_map.1 hm
  have hn : (l.map Prod.fst).Nodup := (h.map Prod.fst).nodup_iff.2 (asc_nodup hm)
  exact asc_unique _ _ (sortK_asc l hn) h2 ((sortK_perm l).trans h)
theorem perm_nodup {l m : List (List UInt8 × T)} (h : l.Perm m) (hm : Asc (m.map Prod.fst)) : (l.map Prod.fst).Nodup := (h.map Prod.fst).nodup_iff.2 (asc_nodup hm)
/-- The parts of a map in some order. -/
theorem lo_map {d : Nat} {its : List T} {keys : List (List UInt8)} (hk : keys.length = its.length) (ha : Asc keys) {qs : List ((List UInt8 × T) × List UInt8)} (hne : qs ≠ []) (hp : (qs.map Prod.fst).Perm (keys.zip its)) (hq : ∀ q ∈ qs, MPart (Lo d) q) : Lo (d + 1) (.mk 5 0 [] its keys) ([123] ++ joinB [44] (qs.map Prod.snd) ++ [125]) := by
  have hm : Asc ((keys.zip its).map Prod.fst) := by rw [zip_fst _ _ hk]; exact ha
  refine .inr (.inr (.inr ⟨qs, hne, ?_, perm_nodup hp hm, hq, rfl⟩))
  rw [sortK_same hp hm, zip_fst _ _ hk, zip_snd _ _ hk]
theorem lo_list {d : Nat} {its : List T} {qs : List (T × List UInt8)} (hne : qs ≠ []) (hp : qs.map Prod.fst = its) (hq : ∀ q ∈ qs, LPart (Lo d) q) : Lo (d + 1) (.mk 4 0 [] its []) ([91] ++ joinB [44] (qs.map Prod.snd) ++ [93]) :=
  .inr (.inr (.inl ⟨qs, hne, by rw [hp], hq, rfl⟩))
theorem join_sp (x : List UInt8) : ∀ (r : List (List UInt8)), joinB [44] (x :: r.map fun y => [32] ++ y) = joinB kSep (x :: r) := by
  intro r
  simp [joinB, kSep, List.flatMap_map]
/-- Blanks behind the commas. -/
def spP {α : Type} (l : List (α × List UInt8)) : List (α × List UInt8) := match l with
  | [] => []
  | x :: r => x :: r.map fun y => (y.1, [32] ++ y.2)
theorem spP_fst {α : Type} (l : List (α × List UInt8)) : (spP l).map Prod.fst = l.map Prod.fst := by
  cases l with
  | nil => rfl
  | cons x r => simp [spP, Function.comp_def]
theorem spP_join {α : Type} (l : List (α × List UInt8)) : joinB [44] ((spP l).map Prod.snd) = joinB kSep (l.map Prod.snd) := by
  cases l with
  | nil => rfl
  | cons x r => rw [List.map_cons, ← join_sp]; simp [spP, Function.comp_def]
theorem spP_mem {α : Type} {l : List (α × List UInt8)} {q : α × List UInt8} (h : q ∈ spP l) : ∃ y ∈ l, q.1 = y.1 ∧ (q.2 = y.2 ∨ q.2 = [32] ++ y.2) := by
  cases l with
  | nil => cases h
  | cons x r =>
    rcases List.mem_cons.1 h with rfl | h
    · exact ⟨_, List.mem_cons_self, rfl, .inl rfl⟩
    · obtain ⟨y, hy, rfl⟩ := List.mem_map.1 h
      exact ⟨y, List.mem_cons_of_mem _ hy, rfl, .inr rfl⟩
theorem spP_ne {α : Type} {l : List (α × List UInt8)} (h : l ≠ []) : spP l ≠ [] := by
  cases l with
  | nil => exact h
  | cons x r => simp [spP]
theorem txts_map : ∀ (l : List T), T.txts l = l.map T.txt
  | [] => rfl
  | x :: r => by rw [T.txts, txts_map r]; rfl
theorem txtm_map : ∀ (l : List T) (ks : List (List UInt8)), ks.length = l.length → T.txtm l ks = (ks.zip l).map fun p => quoteT p.1 ++ [58, 32] ++ p.2.txt
  | [], ks, h => by simp [T.txtm]
  | x :: r, [], h => by simp at h
  | x :: r, k :: ks, h => by rw [T.txtm, txtm_map r _ (by simpa using h)]; rfl
theorem lo_txt (t : T) : ∀ d, WF d t → Lo d t t.txt := by
  induction t using T.ind with
  | h kind int text its keys ih =>
    intro d h
    rcases h.inv with ⟨rfl, rfl, rfl, rfl, rfl⟩ | ⟨rfl, hi, rfl, rfl, rfl⟩ | ⟨rfl, h1, h2, rfl, rfl, rfl⟩ | ⟨rfl, rfl, h6, rfl, rfl⟩ | ⟨d', rfl, rfl, rfl, rfl, rfl, hl, hw⟩ | ⟨d', rfl, rfl, rfl, rfl, hk, hl, hs, h6, hw⟩
    · rw [T.txt0]; exact Lo.pr (.inl ⟨rfl, rfl⟩) d
    · rw [T.txt1]
      rcases hi with rfl | rfl
      · exact Lo.pr (.inr (.inr (.inl ⟨rfl, rfl⟩))) d
      · exact Lo.pr (.inr (.inl ⟨rfl, rfl⟩)) d
    · rw [T.txt2]; exact Lo.pr (.inr (.inr (.inr (.inl ⟨int, h1, h2, rfl, rfl⟩)))) d
    · rw [T.txt3]; exact Lo.pr (.inr (.inr (.inr (.inr ⟨text, by omega, rfl, quo_can text⟩)))) d
    · rw [T.txt4, txts_map]
      by_cases hn : its = []
      · subst hn; exact .inr (.inl ⟨[], blank_nil, .inl ⟨rfl, rfl⟩⟩)
      · have e : joinB kSep (its.map T.txt) = joinB [44] ((spP (its.map fun x => (x, x.txt))).map Prod.snd) := by
          rw [spP_join, List.map_map]; rfl
        rw [e]
        refine lo_list (spP_ne (by simpa using hn)) (by rw [spP_fst, List.map_map]; exact List.map_id _) fun q hq => ?_
        obtain ⟨y, hy, h1, h2⟩ := spP_mem hq
        obtain ⟨x, hx, rfl⟩ := List.mem_map.1 hy
        have := ih x hx d' (hw x hx)
        obtain ⟨qx, qt⟩ := q
        have h3 : qx = x := h1
        subst h3
        rcases h2 with h2 | h2
        · exact ⟨[], qx.txt, [], blank_nil, blank_nil, this, by have h2 : qt = _ := h2; show qt = _; rw [h2]; simp⟩
        · exact ⟨[32], qx.txt, [], blank_sp, blank_nil, this, by have h2 : qt = _ := h2; show qt = _; rw [h2]; simp⟩
    · rw [T.txt5, txtm_map _ _ hk]
      by_cases hn : its = []
      · subst hn
        have : keys = [] := List.length_eq_zero_iff.1 (by simpa using hk)
        subst this
        exact .inr (.inl ⟨[], blank_nil, .inr ⟨rfl, rfl⟩⟩)
      · have hz : keys.zip its ≠ [] := fun e => by
          have := congrArg List.length e
          rw [List.length_zip, hk, Nat.min_self] at this
          exact hn (List.length_eq_zero_iff.1 this)
        have e : joinB kSep ((keys.zip its).map fun p => quoteT p.1 ++ [58, 32] ++ p.2.txt) = joinB [44] ((spP ((keys.zip its).map fun p => (p, quoteT p.1 ++ [58, 32] ++ p.2.txt))).map Prod.snd) := by
          rw [spP_join, List.map_map]; rfl
        rw [e]
        refine lo_map hk hs (spP_ne (by simpa using hz)) (by rw [spP_fst, List.map_map, show (Prod.fst ∘ fun p : List UInt8 × T => (p, quoteT p.1 ++ [58, 32] ++ p.2.txt)) = id from rfl, List.map_id]) fun q hq => ?_
        obtain ⟨y, hy, h1, h2⟩ := spP_mem hq
        obtain ⟨⟨k, x⟩, hx, rfl⟩ := List.mem_map.1 hy
        have hxi := List.of_mem_zip hx
        have := ih x hxi.2 d' (hw x hxi.2)
        have hk6 := h6 k hxi.1
        obtain ⟨⟨qk, qx⟩, qt⟩ := q
        simp only at h1 h2
        injection h1 with h3 h4
        subst h3
        subst h4
        rcases h2 with h2 | h2
        · exact ⟨[], quoteT qk, [], [32], qx.txt, [], blank_nil, blank_nil, blank_sp, blank_nil, by show qk.length ≤ 4096; omega, quo_can _, this, by have h2 : qt = _ := h2; show qt = _; rw [h2]; simp⟩
        · exact ⟨[32], quoteT qk, [], [32], qx.txt, [], blank_sp, blank_nil, blank_sp, blank_nil, by show qk.length ≤ 4096; omega, quo_can _, this, by have h2 : qt = _ := h2; show qt = _; rw [h2]; simp⟩
end Go.Proofs.YthkfnmmbjoadbaaGreatDoor
