/- SX, part 2: the operations as a function of what is known; what it does not cover it leaves as a goal of its own. -/
import Derived.Test.YthkfnmmbjoadbaaGreatDoorPxCore
set_option linter.unusedVariables false
set_option linter.unusedSimpArgs false
namespace Go.SX

def nth : Mem → Nat → Option Slot
  | [], _ => none
  | x :: _, 0 => some x
  | _ :: r, k + 1 => nth r k
theorem nth_eq : ∀ (m : Mem) (k : Nat), nth m k = m[k]?
  | [], _ => by simp [nth]
  | x :: _, 0 => by simp [nth]
  | _ :: r, k + 1 => by simp [nth, nth_eq r k]
def nthV : List Value → Nat → Option Value
  | [], _ => none
  | x :: _, 0 => some x
  | _ :: r, k + 1 => nthV r k
theorem nthV_eq : ∀ (m : List Value) (k : Nat), nthV m k = m[k]?
  | [], _ => by simp [nthV]
  | x :: _, 0 => by simp [nthV]
  | _ :: r, k + 1 => by simp [nthV, nthV_eq r k]
/-- 'sz' cells from 'q' on. -/
def seg : List Value → Nat → Nat → Option (List Value)
  | _, 0, 0 => some []
  | x :: r, 0, n + 1 => match seg r 0 n with
    | some l => some (x :: l)
    | none => none
  | _ :: r, q + 1, n => seg r q n
  | [], _, _ => none
theorem seg_eq : ∀ (c : List Value) (q n : Nat) (l : List Value), seg c q n = some l → l.length = n ∧ ∀ j v, l[j]? = some v → c[q + j]? = some v
  | [], 0, 0, l, h => by simp [seg] at h; subst h; simp
  | x :: r, 0, 0, l, h => by simp [seg] at h; subst h; simp
  | x :: r, 0, n + 1, l, h => by
    simp only [seg] at h
    split at h
    · rename_i l' h'
      simp only [Option.some.injEq] at h; subst h
      obtain ⟨h1, h2⟩ := seg_eq r 0 n l' h'
      refine ⟨by simp [h1], fun j v hj => ?_⟩
      cases j with
      | zero => simpa using hj
      | succ j => have := h2 j v (by simpa using hj); simpa [Nat.add_comm] using this
    · cases h
  | x :: r, q + 1, n, l, h => by
    simp only [seg] at h
    obtain ⟨h1, h2⟩ := seg_eq r q n l h
    refine ⟨h1, fun j v hj => ?_⟩
    have := h2 j v hj
    rw [show q + 1 + j = (q + j) + 1 by omega]
    simpa using this
  | [], 0, n + 1, l, h => by simp [seg] at h
  | [], q + 1, n, l, h => by cases n <;> simp [seg] at h
/-- Cells 'vs' in place of those from 'q' on. -/
def spl : List Value → Nat → List Value → Option (List Value)
  | c, 0, [] => some c
  | _ :: r, 0, v :: vs => match spl r 0 vs with
    | some l => some (v :: l)
    | none => none
  | x :: r, q + 1, vs => match spl r q vs with
    | some l => some (x :: l)
    | none => none
  | [], _, _ => none
theorem spl_eq : ∀ (c : List Value) (q : Nat) (vs l : List Value), spl c q vs = some l → q + vs.length ≤ c.length ∧ l = c.take q ++ vs ++ c.drop (q + vs.length)
  | [], 0, [], l, h => by simp [spl] at h; subst h; simp
  | x :: r, 0, [], l, h => by simp [spl] at h; subst h; simp
  | x :: r, 0, v :: vs, l, h => by
    simp only [spl] at h
    split at h
    · rename_i l' h'
      simp only [Option.some.injEq] at h; subst h
      obtain ⟨h1, h2⟩ := spl_eq r 0 vs l' h'
      refine ⟨by simp at h1 ⊢; omega, by rw [h2]; simp⟩
    · cases h
  | x :: r, q + 1, vs, l, h => by
    simp only [spl] at h
    split at h
    · rename_i l' h'
      simp only [Option.some.injEq] at h; subst h
      obtain ⟨h1, h2⟩ := spl_eq r q vs l' h'
      refine ⟨by simp at h1 ⊢; omega, by rw [h2, show q + 1 + vs.length = (q + vs.length) + 1 by omega]; simp⟩
    · cases h
  | [], 0, v :: vs, l, h => by simp [spl] at h
  | [], q + 1, vs, l, h => by simp [spl] at h
def setM : Mem → Nat → Slot → Option Mem
  | [], _, _ => none
  | _ :: r, 0, s => some (s :: r)
  | x :: r, k + 1, s => match setM r k s with
    | some l => some (x :: l)
    | none => none
theorem setM_eq : ∀ (m : Mem) (k : Nat) (s : Slot) (l : Mem), setM m k s = some l → l = m.set k s ∧ k < m.length
  | [], k, s, l, h => by simp [setM] at h
  | x :: r, 0, s, l, h => by simp [setM] at h; subst h; simp
  | x :: r, k + 1, s, l, h => by
    simp only [setM] at h
    split at h
    · rename_i l' h'
      simp only [Option.some.injEq] at h; subst h
      obtain ⟨h1, h2⟩ := setM_eq r k s l' h'
      exact ⟨by rw [h1]; simp, by simp; omega⟩
    · cases h
def snoc : Mem → Slot → Nat → (Nat → Mem → Prop) → Prop
  | [], s, i, K => K i [s]
  | x :: r, s, i, K => snoc r s (i + 1) fun k r' => K k (x :: r')
theorem snoc_eq : ∀ (m : Mem) (s : Slot) (i : Nat) (K : Nat → Mem → Prop), snoc m s i K ↔ K (i + m.length) (m ++ [s])
  | [], s, i, K => by simp [snoc]
  | x :: r, s, i, K => by
    simp only [snoc, snoc_eq r s (i + 1)]
    rw [show i + 1 + r.length = i + (x :: r).length by simp; omega]
    simp

def putK (n : Cfg) (d : Option Nat) (x : SV) (e : Env) (K : Env → Prop) : Prop :=
  match d with
  | none => K e
  | some t => match Nat.blt t n.n with
    | true => K ((t, x) :: e)
    | false => False
theorem putK_ok {n d x e} {K : Env → Prop} {a : Act} {m : Mem} {v : Value} (h : putK n d x e K) (ha : Agr a n e m) (hx : x.den m = some v) :
    ∃ e', Agr (a.put d v) n e' m ∧ K e' := by
  cases d with
  | none => exact ⟨e, ha, h⟩
  | some t =>
    simp only [putK] at h
    cases hb : Nat.blt t n.n with
    | false => rw [hb] at h; exact h.elim
    | true =>
      rw [hb] at h
      refine ⟨_, ha.put (some t) (fun u hu => ?_) hx, h⟩
      have : t = u := Option.some.inj hu
      subst this
      exact Nat.le_of_ble_eq_true (by simpa [Nat.blt] using hb)

/-! ### how the world, the ghost and the slots turn together -/
theorem Has.alloc {w g m} (h : Has w g m) (o : SO) (ob : Obj) (ho : o.ob = some ob) : Has (w.alloc ob) g (m ++ [⟨w.heap.size, o⟩]) := by
  have hnew : (w.alloc ob).heap[w.heap.size]? = some ob := by show (w.heap.push ob)[w.heap.size]? = _; simp
  have hold : ∀ b, b < w.heap.size → (w.alloc ob).heap[b]? = w.heap[b]? := fun b hb => by
    show (w.heap.push ob)[b]? = _
    rw [Array.getElem?_push, if_neg (by omega)]
  have hlt : ∀ b x, w.heap[b]? = some x → b < w.heap.size := fun b x hx => (Array.getElem?_eq_some_iff.1 hx).1
  constructor
  · intro b x hx
    have := h.sub b x hx
    rw [hold b (hlt b x this)]; exact this
  · intro s hs x hx
    rcases List.mem_append.1 hs with hs | hs
    · have := h.own s hs x hx
      rw [hold _ (hlt _ x this)]; exact this
    · obtain rfl := List.mem_singleton.1 hs
      have : ob = x := Option.some.inj (ho.symm.trans hx)
      subst this
      exact hnew
  · intro i j s t hi hj hs ht hb
    have key : ∀ {i : Nat} {s : Slot}, (m ++ [(⟨w.heap.size, o⟩ : Slot)])[i]? = some s → (m[i]? = some s) ∨ (i = m.length ∧ s = ⟨w.heap.size, o⟩) := by
      intro i s hi
      rcases Nat.lt_or_ge i m.length with hl | hl
      · left; rwa [List.getElem?_append_left hl] at hi
      · right
        rw [List.getElem?_append_right hl] at hi
        rcases Nat.eq_or_lt_of_le hl with he | hg
        · subst he; simp at hi; exact ⟨rfl, hi.symm⟩
        · rw [List.getElem?_eq_none (by simp; omega)] at hi; cases hi
    have hin : ∀ {i : Nat} {s : Slot}, m[i]? = some s → s.live = true → s.b < w.heap.size := fun hi hs => h.lt (Mem.mem_lives.2 ⟨_, List.mem_of_getElem? hi, rfl, Option.isSome_iff_exists.1 hs⟩)
    rcases key hi with h1 | ⟨rfl, rfl⟩ <;> rcases key hj with h2 | ⟨rfl, rfl⟩
    · exact h.inj i j s t h1 h2 hs ht hb
    · have := hin h1 hs; simp at hb; omega
    · have := hin h2 ht; simp at hb; omega
    · rfl
  · intro b hb
    rw [Mem.lives_append] at hb
    rcases List.mem_append.1 hb with hb | hb
    · exact h.apart b hb
    · obtain ⟨s, hs, rfl, _⟩ := Mem.mem_lives.1 hb
      obtain rfl := List.mem_singleton.1 hs
      cases hg : g w.heap.size with
      | none => rfl
      | some x => have := hlt _ x (h.sub _ x hg); omega
theorem Fr.alloc {w g m} (o : SO) (ob : Obj) : Fr w m g (w.alloc ob) (m ++ [⟨w.heap.size, o⟩]) g where
  os := rfl
  tape := rfl
  output := rfl
  size := by show w.heap.size ≤ (w.heap.push ob).size; simp
  le := .refl _
  keep b hb _ := by
    show (w.heap.push ob)[b]? = _
    rw [Array.getElem?_push, if_neg (by omega)]
  gnew _ _ _ := rfl
  mnew b hb hm h := by
    rw [Mem.lives_append] at h
    rcases List.mem_append.1 h with h | h
    · exact hm h
    · obtain ⟨s, hs, rfl, _⟩ := Mem.mem_lives.1 h
      obtain rfl := List.mem_singleton.1 hs
      simp at hb
/-- One own block is turned. -/
theorem Has.write {w w' g m} (h : Has w g m) {k : Nat} {s : Slot} (hk : m[k]? = some s) {o : Obj} (hs : s.o.ob = some o) (o' : SO) (ob' : Obj) (ho' : o'.ob = some ob')
    (h1 : w'.heap[s.b]? = some ob') (h2 : ∀ b, b ≠ s.b → w'.heap[b]? = w.heap[b]?) : Has w' g (m.set k ⟨s.b, o'⟩) := by
  have hl : s.live = true := live_iff.2 ⟨o, hs⟩
  have hsl : s.b ∈ m.lives := Mem.mem_lives.2 ⟨s, List.mem_of_getElem? hk, rfl, o, hs⟩
  have key : ∀ {i : Nat} {t : Slot}, (m.set k ⟨s.b, o'⟩)[i]? = some t → (i = k ∧ t = ⟨s.b, o'⟩) ∨ (i ≠ k ∧ m[i]? = some t) := by
    intro i t hi
    by_cases e : k = i
    · subst e
      rw [List.getElem?_set_self (List.getElem?_eq_some_iff.1 hk).1] at hi
      exact .inl ⟨rfl, (Option.some.inj hi).symm⟩
    · rw [List.getElem?_set_ne e] at hi; exact .inr ⟨fun h => e h.symm, hi⟩
  constructor
  · intro b x hx
    rw [h2 b (fun e => by subst e; rw [h.apart _ hsl] at hx; cases hx)]
    exact h.sub b x hx
  · intro t ht x hx
    obtain ⟨i, hi⟩ := List.mem_iff_getElem?.1 ht
    rcases key hi with ⟨rfl, rfl⟩ | ⟨hne, hi⟩
    · have : ob' = x := Option.some.inj (ho'.symm.trans hx)
      subst this; exact h1
    · rw [h2 t.b (fun e => hne (h.inj i k t s hi hk (live_iff.2 ⟨x, hx⟩) hl e))]
      exact h.own t (List.mem_of_getElem? hi) x hx
  · intro i j x y hi hj hx hy hb
    rcases key hi with ⟨ei, ex⟩ | ⟨hni, hi2⟩ <;> rcases key hj with ⟨ej, ey⟩ | ⟨hnj, hj2⟩
    · rw [ei, ej]
    · subst ex; exact (hnj (h.inj j k y s hj2 hk hy hl hb.symm)).elim
    · subst ey; exact (hni (h.inj i k x s hi2 hk hx hl hb)).elim
    · exact h.inj i j x y hi2 hj2 hx hy hb
  · intro b hb
    exact h.apart b (lives_set (s' := ⟨s.b, o'⟩) hk rfl hs hb)
theorem Fr.write {w w' g m} {k : Nat} {s : Slot} (hk : m[k]? = some s) {o : Obj} (hs : s.o.ob = some o) (o' : SO)
    (h2 : ∀ b, b ≠ s.b → w'.heap[b]? = w.heap[b]?) (hsz : w'.heap.size = w.heap.size) (h3 : w'.os = w.os) (h4 : w'.tape = w.tape) (h5 : w'.output = w.output) : Fr w m g w' (m.set k ⟨s.b, o'⟩) g where
  os := h3
  tape := h4
  output := h5
  size := by omega
  le := .refl _
  keep b hb hm := h2 b fun e => hm (Mem.mem_lives.2 ⟨s, List.mem_of_getElem? hk, e.symm, o, hs⟩)
  gnew _ _ _ := rfl
  mnew b hb hm h := hm (lives_set (s' := ⟨s.b, o'⟩) hk rfl hs h)

/-- An address further on. -/
def addN (a : Addr) (j : Nat) : Addr :=
  match a with
  | ⟨b, q, none⟩ => ⟨b, q + j, none⟩
  | ⟨b, q, some s⟩ => Addr.add ⟨b, q, some s⟩ j
theorem addN_eq (a : Addr) (j : Nat) : addN a j = a.add j := by
  obtain ⟨b, q, s⟩ := a
  cases s with
  | none => simp only [addN, Addr.add]; split <;> simp_all
  | some s => rfl
/-! ### pure operations -/
inductive PR where
  | val (v : Value)
  | need (c : Prop) (v : Value)
  | no
/-- A number as a literal. -/
def litN (n : Nat) (f : Nat → PR) : PR :=
  match n with
  | 0 => f 0
  | 1 => f 1
  | 2 => f 2
  | 3 => f 3
  | 4 => f 4
  | 5 => f 5
  | 6 => f 6
  | 7 => f 7
  | 8 => f 8
  | 9 => f 9
  | 10 => f 10
  | 11 => f 11
  | 12 => f 12
  | 13 => f 13
  | 14 => f 14
  | 15 => f 15
  | 16 => f 16
  | 17 => f 17
  | 18 => f 18
  | 19 => f 19
  | 20 => f 20
  | 21 => f 21
  | 22 => f 22
  | 23 => f 23
  | 24 => f 24
  | 25 => f 25
  | 26 => f 26
  | 27 => f 27
  | 28 => f 28
  | 29 => f 29
  | 30 => f 30
  | 31 => f 31
  | 32 => f 32
  | n => f n
theorem litN_eq (n : Nat) (f : Nat → PR) : litN n f = f n := by
  unfold litN; split <;> rfl
structure ONeed (c k : Prop) : Prop where
  mk ::
  c : c
  k : k
def aggN (P : Program) (t : TypeId) : Option (Option Nat) :=
  match P.underlying t with
  | some (.struct _) => match P.info? t with
    | some i => some (some i.size)
    | none => none
  | some (.array _ _) => match P.info? t with
    | some i => some (some i.size)
    | none => none
  | some _ => some none
  | none => none
def sameK : IntKind → IntKind → Bool
  | .i8, .i8 | .i16, .i16 | .i32, .i32 | .i64, .i64 | .u8, .u8 | .u16, .u16 | .u32, .u32 | .u64, .u64 => true
  | _, _ => false
theorem sameK_eq {k k' : IntKind} (h : sameK k k' = true) : k = k' := by cases k <;> cases k' <;> first | rfl | cases h

def intBin (op : BinOp) (k k' : IntKind) (a b : Int) : PR :=
  match op with
  | .shl => .need (0 ≤ b) (.int k (k.wrap (a * 2 ^ (min b.toNat k.bits))))
  | .shr => .need (0 ≤ b) (.int k (a.fdiv (2 ^ (min b.toNat k.bits))))
  | op => match sameK k k' with
    | false => .no
    | true => match op with
      | .add => .val (.int k (k.wrap (a + b)))
      | .sub => .val (.int k (k.wrap (a - b)))
      | .mul => .val (.int k (k.wrap (a * b)))
      | .quo => .need (b ≠ 0) (.int k (k.wrap (a.tdiv b)))
      | .rem => .need (b ≠ 0) (.int k (a.tmod b))
      | .and => .val (.int k (k.wrap (BitVec.ofInt k.bits a &&& BitVec.ofInt k.bits b).toNat))
      | .or => .val (.int k (k.wrap (BitVec.ofInt k.bits a ||| BitVec.ofInt k.bits b).toNat))
      | .xor => .val (.int k (k.wrap (BitVec.ofInt k.bits a ^^^ BitVec.ofInt k.bits b).toNat))
      | .andNot => .val (.int k (k.wrap (BitVec.ofInt k.bits a &&& ~~~BitVec.ofInt k.bits b).toNat))
      | .eql => .val (.bool (a == b))
      | .neq => .val (.bool (a != b))
      | .lss => .val (.bool (decide (a < b)))
      | .leq => .val (.bool (decide (a ≤ b)))
      | .gtr => .val (.bool (decide (a > b)))
      | .geq => .val (.bool (decide (a ≥ b)))
      | _ => .no
def strBin (op : BinOp) (a b : ByteArray) : PR :=
  match op with
  | .add => .need (a.size + b.size ≤ 9223372036854775807) (.string (a ++ b))
  | .eql => .val (.bool (a.toList == b.toList))
  | .neq => .val (.bool (!(a.toList == b.toList)))
  | .lss => .val (.bool (Op.bytesLess a.toList b.toList))
  | .leq => .val (.bool (Op.bytesLess a.toList b.toList || a.toList == b.toList))
  | .gtr => .val (.bool (!(Op.bytesLess a.toList b.toList || a.toList == b.toList)))
  | .geq => .val (.bool (!(Op.bytesLess a.toList b.toList)))
  | _ => .no
def eqV (P : Program) (t : TypeId) (x y : Value) : Option Bool :=
  match P.underlying t, x, y with
  | some .bool, .bool a, .bool b => some (a == b)
  | some (.pointer _), .pointer none, .pointer b => some b.isNone
  | some (.pointer _), .pointer (some _), .pointer none => some false
  | some (.slice _), .slice none _ _, .slice b _ _ => some b.isNone
  | some (.slice _), .slice (some _) _ _, .slice none _ _ => some false
  | some (.map _ _), .map none, .map b => some b.isNone
  | some (.map _ _), .map (some _), .map none => some false
  | some (.func _ _ _), .nilFunc, .nilFunc => some true
  | some (.func _ _ _), .nilFunc, .func _ _ _ => some false
  | some (.func _ _ _), .func _ _ _, .nilFunc => some false
  | some (.interface _), .nilIface, .iface _ _ => some false
  | some (.interface _), .iface _ _, .nilIface => some false
  | _, _, _ => none
def binV (P : Program) (op : BinOp) (t : TypeId) (x y : Value) : PR :=
  match x, y with
  | .int k a, .int k' b => intBin op k k' a b
  | .string a, .string b => strBin op a b
  | x, y => match op with
    | .eql => match eqV P t x y with
      | some b => .val (.bool b)
      | none => .no
    | .neq => match eqV P t x y with
      | some b => .val (.bool (!b))
      | none => .no
    | _ => .no
def byteAt (s : ByteArray) (i : Nat) : Nat := ((s.data[i]?).getD 0).toNat

def optV (ρ : Operand → Option Value) : Option Operand → Option (Option Value)
  | none => some none
  | some x => match ρ x with
    | some v => some (some v)
    | none => none
def mapV (ρ : Operand → Option Value) : List Operand → Option (List Value)
  | [] => some []
  | x :: r => match ρ x, mapV ρ r with
    | some v, some l => some (v :: l)
    | _, _ => none
theorem mapV_ok {ρ : Operand → Option Value} {ρ' : Operand → Value} (hρ : ∀ x v, ρ x = some v → ρ' x = v) : ∀ (l : List Operand) (vs : List Value), mapV ρ l = some vs → l.map ρ' = vs
  | [], vs, h => by simp [mapV] at h; subst h; rfl
  | x :: r, vs, h => by
    simp only [mapV] at h
    split at h
    · rename_i v l h1 h2
      simp only [Option.some.injEq] at h; subst h
      simp [hρ x v h1, mapV_ok hρ r l h2]
    · cases h
/-- A cut's bounds, when they are given: low, high. -/
def sliceV (P : Program) (t : TypeId) (x : Value) (lo hi mx : Option Value) : PR :=
  match P.underlying t, x, lo, hi, mx with
  | some .string, .string s, none, some (.int _ h), none => .need (0 ≤ h ∧ h ≤ s.size) (.string (s.extract 0 h.toNat))
  | some .string, .string s, some (.int _ l), none, none => .need (0 ≤ l ∧ l ≤ s.size) (.string (s.extract l.toNat s.size))
  | some .string, .string s, some (.int _ l), some (.int _ h), none => .need ((0 ≤ h ∧ h ≤ s.size) ∧ 0 ≤ l ∧ l ≤ h) (.string (s.extract l.toNat h.toNat))
  | some .string, .string s, none, none, none => .val (.string (s.extract 0 s.size))
  | some (.slice e), .slice a n c, lo, hi, mx => match P.info? e with
    | none => .no
    | some i => litN i.size fun sz => match lo, hi, mx with
      | none, none, none => .val (.slice (if c = 0 then a else a.map (addN · (0 * sz))) (n - 0) (c - 0))
      | none, some (.int _ h), none => .need (0 ≤ h ∧ h ≤ c) (.slice (if c = 0 then a else a.map (addN · (0 * sz))) (h.toNat - 0) (c - 0))
      | some (.int _ l), none, none => .need (0 ≤ l ∧ l ≤ n) (.slice (if c = l.toNat then a else a.map (addN · (l.toNat * sz))) (n - l.toNat) (c - l.toNat))
      | some (.int _ l), some (.int _ h), none => .need ((0 ≤ h ∧ h ≤ c) ∧ 0 ≤ l ∧ l ≤ h.toNat) (.slice (if c = l.toNat then a else a.map (addN · (l.toNat * sz))) (h.toNat - l.toNat) (c - l.toNat))
      | some (.int _ l), some (.int _ h), some (.int _ x) => .need ((0 ≤ x ∧ x ≤ c) ∧ (0 ≤ h ∧ h ≤ x.toNat) ∧ 0 ≤ l ∧ l ≤ h.toNat) (.slice (if x.toNat = l.toNat then a else a.map (addN · (l.toNat * sz))) (h.toNat - l.toNat) (x.toNat - l.toNat))
      | _, _, _ => .no
  | _, _, _, _, _ => .no
/-- The cells of a struct that is built: zero, the parts laid over it. -/
def fillL (fs : List (Nat × Nat)) : List Value → List (Nat × Value) → Option (List Value)
  | c, [] => some c
  | c, (i, v) :: r => match fs[i]? with
    | none => none
    | some (off, size) => match Nat.beq v.cells.toList.length size with
      | false => none
      | true => match spl c off v.cells.toList with
        | some c' => fillL fs c' r
        | none => none
def partsV (ρ : Operand → Option Value) : List (Nat × Operand) → Option (List (Nat × Value))
  | [] => some []
  | (i, x) :: r => match ρ x, partsV ρ r with
    | some v, some l => some ((i, v) :: l)
    | _, _ => none
def placesOf (P : Program) : List Field → Option (List (Nat × Nat))
  | [] => some []
  | f :: r => match P.info? f.type, placesOf P r with
    | some i, some l => some ((f.offset, i.size) :: l)
    | _, _ => none
def zeroL (P : Program) (t : TypeId) : Option (List Value) :=
  match P.info? t with
  | some i => match i.zero with
    | some z => some z.cells.toList
    | none => none
  | none => none
def buildV (P : Program) (ρ : Operand → Option Value) (t : TypeId) (ps : List (Nat × Operand)) : PR :=
  match zeroL P t, P.underlying t, partsV ρ ps with
  | some z, some (.struct fs), some vs => match placesOf P fs.toList with
    | some pl => match fillL pl z vs with
      | some c => .val (.agg c.toArray)
      | none => .no
    | none => .no
  | _, _, _ => .no
def minI (a b : Int) : Int := if b < a then b else a
def maxI (a b : Int) : Int := if a < b then b else a

/-- A constant second operand that no test is needed of. -/
def easy (y : Operand) (op : BinOp) : Bool :=
  match y with
  | .const (.int _ b) => match op with
    | .shl | .shr => match b with
      | .ofNat _ => true
      | .negSucc _ => false
    | .quo | .rem => match b with
      | .ofNat 0 => false
      | _ => true
    | _ => false
  | _ => false
def pv (P : Program) (ρ : Operand → Option Value) (op : Op) : PR :=
  match op with
  | .nilCheck x => match ρ x with
    | some (.pointer (some a)) => .val (.pointer (some a))
    | some (.func (.func f) a b) => .val (.func (.func f) a b)
    | _ => .no
  | .fieldAddr s x f => match ρ x, P.underlying s with
    | some (.pointer (some a)), some (.struct fs) => match fs.toList[f]? with
      | some fd => match P.info? fd.type with
        | some i => match Nat.beq i.size 0 with
          | false => .val (.pointer (some (addN a fd.offset)))
          | true => .no
        | none => .no
      | none => .no
    | _, _ => .no
  | .field s x f => match ρ x, P.underlying s with
    | some (.agg cs), some (.struct fs) => match fs.toList[f]? with
      | some fd => match aggN P fd.type with
        | some none => match nthV cs.toList fd.offset with
          | some v => .val v
          | none => .no
        | _ => .no
      | none => .no
    | _, _ => .no
  | .indexAddr t x i => match ρ x, ρ i, P.underlying t with
    | some (.slice (some a) n _), some (.int _ j), some (.slice e) => match P.info? e with
      | some inf => litN inf.size fun sz => .need (0 ≤ j ∧ j < n) (.pointer (some (addN a (j.toNat * sz))))
      | none => .no
    | some (.pointer (some a)), some (.int _ j), some (.array n e) => match P.info? e with
      | some inf => litN inf.size fun sz => .need (0 ≤ j ∧ j < n) (.pointer (some (addN a (j.toNat * sz))))
      | none => .no
    | _, _, _ => .no
  | .index t x i => match ρ x, ρ i, P.underlying t with
    | some (.string s), some (.int _ j), some .string => .need (0 ≤ j ∧ j < s.size) (.int .u8 (byteAt s j.toNat))
    | _, _, _ => .no
  | .slice t x lo hi mx => match ρ x, optV ρ lo, optV ρ hi, optV ρ mx with
    | some v, some l, some h, some m => sliceV P t v l h m
    | _, _, _, _ => .no
  | .convert s d x => match ρ x, P.underlying s, P.underlying d with
    | some (.int _ n), some _, some (.int k) => .val (.int k (k.wrap n))
    | some (.string s), some _, some .string => .val (.string s)
    | _, _, _ => .no
  | .unOp op _ x => match op, ρ x with
    | .not, some (.bool b) => .val (.bool (!b))
    | .neg, some (.int k n) => .val (.int k (k.wrap (0 - n)))
    | _, _ => .no
  | .binOp op t x y _ => match ρ x, ρ y with
    | some a, some b => match binV P op t a b with
      | .need c v => match easy y op with
        | true => .val v
        | false => .need c v
      | r => r
    | _, _ => .no
  | .build t ps => buildV P ρ t ps.toList
  | .makeFunc fn first cap => match mapV ρ first.toList, mapV ρ cap.toList with
    | some a, some b => .val (.func fn a.toArray b.toArray)
    | _, _ => .no
  | .extract x i => match ρ x with
    | some (.tuple vs) => match nthV vs.toList i with
      | some v => .val v
      | none => .no
    | _ => .no
  | .makeInterface t x => match ρ x, P.underlying t with
    | some _, some (.interface _) => .no
    | some v, some _ => .val (.iface t v)
    | _, _ => .no
  | .call c => match c.callee with
    | .builtin .len => match c.args.toList, c.argTypes.toList with
      | [x], [t] => match ρ x, P.underlying t with
        | some (.string s), some .string => .val (.int .i64 s.size)
        | some (.slice _ n _), some (.slice _) => .val (.int .i64 n)
        | some (.map none), some (.map _ _) => .val (.int .i64 0)
        | _, _ => .no
      | _, _ => .no
    | .builtin .cap => match c.args.toList, c.argTypes.toList with
      | [x], [t] => match ρ x, P.underlying t with
        | some (.slice _ _ n), some (.slice _) => .val (.int .i64 n)
        | _, _ => .no
      | _, _ => .no
    | .builtin .min => match c.args.toList with
      | [x, y] => match ρ x, ρ y with
        | some (.int k a), some (.int k' b) => match sameK k k' with
          | true => .val (.int k (minI a b))
          | false => .no
        | _, _ => .no
      | _ => .no
    | .builtin .max => match c.args.toList with
      | [x, y] => match ρ x, ρ y with
        | some (.int k a), some (.int k' b) => match sameK k k' with
          | true => .val (.int k (maxI a b))
          | false => .no
        | _, _ => .no
      | _ => .no
    | _ => .no
  | _ => .no

/-! ### they are what the model runs -/
section
variable {P : Program}
def Is (s : Sem Value) (P : Program) (v : Value) : Prop := ∀ w, s.run P w = .ok v w
theorem upon_val {o : Oper} {a : Act} {w : World} {next Q} {s : Sem Value} {v : Value} (hs : Is s P v) (he : execOp a.eval o = (do pure (.value (← s)))) (h : next (a.put o.dst v) w) : o.wp P a w next Q := by
  unfold Oper.wp
  rw [he]
  simp only [Sem.run_bind, hs w, Result.andThen_ok, Sem.run_pure, Oper.upon]
  exact h

theorem intBin_ok {op k k' a b v} : (∀ c, intBin op k k' a b = .need c v → c → Is (binOp op 0 (.int k a) (.int k' b)) P v) ∧ (intBin op k k' a b = .val v → Is (binOp op 0 (.int k a) (.int k' b)) P v) := by
  constructor
  · intro c h hc w
    by_cases hk : sameK k k' = true
    · obtain rfl := sameK_eq hk
      cases op <;> simp only [intBin, hk, PR.need.injEq, reduceCtorEq] at h <;> obtain ⟨rfl, rfl⟩ := h
      · simp [binOp, Op.intDiv, hc]
      · simp [binOp, Op.intDiv, hc]
      · simp [binOp, Op.shift, Int.not_lt.2 hc]
      · simp [binOp, Op.shift, Int.not_lt.2 hc]
    · have hk' : sameK k k' = false := by simpa using hk
      cases op <;> simp only [intBin, hk', PR.need.injEq, reduceCtorEq] at h <;> obtain ⟨rfl, rfl⟩ := h
      · simp [binOp, Op.shift, Int.not_lt.2 hc]
      · simp [binOp, Op.shift, Int.not_lt.2 hc]
  · intro h w
    by_cases hk : sameK k k' = true
    · obtain rfl := sameK_eq hk
      cases op <;> simp only [intBin, hk, PR.val.injEq, reduceCtorEq] at h <;> subst h <;> simp [binOp, Op.intArith, Op.intBits, Op.intCmp]
    · have hk' : sameK k k' = false := by simpa using hk
      cases op <;> simp [intBin, hk'] at h
theorem strBin_ok {op a b v} : (∀ c, strBin op a b = .need c v → c → Is (Op.stringOp op a b) P v) ∧ (strBin op a b = .val v → Is (Op.stringOp op a b) P v) := by
  constructor
  · intro c h hc w
    cases op <;> simp only [strBin, PR.need.injEq, reduceCtorEq] at h
    obtain ⟨rfl, rfl⟩ := h
    have : ¬ (((a.size + b.size : Nat) : Int) > IntKind.i64.max) := by
      have : IntKind.i64.max = 9223372036854775807 := by decide
      omega
    simp only [Op.stringOp, this, if_false]; rfl
  · intro h w
    cases op <;> simp only [strBin, PR.val.injEq, reduceCtorEq] at h <;> subst h <;> simp [Op.stringOp]
theorem eqV_ok {t x y b} (h : eqV P t x y = some b) (w : World) : (Op.equal t x y).run P w = .ok b w := by
  unfold Op.equal Op.maxDepth Op.equalIn
  unfold eqV at h
  split at h <;> (first | (cases h; done) | (rename_i hu; simp only [Option.some.injEq] at h; subst h; simp [run_underlying hu]))
theorem easy_ok {op t k b x c v} (he : easy (.const (.int k b)) op = true) (h : binV P op t x (.int k b) = .need c v) : c := by
  unfold binV at h
  split at h
  · rename_i k1 a k' b' hx hy
    injection hy with h1 h2
    subst h1 h2
    unfold easy at he
    cases op <;> simp only [Bool.false_eq_true] at he
    · split at he
      · cases he
      · rename_i hb
        simp only [intBin] at h
        split at h <;> simp at h
        rw [← h.1]
        intro h0; subst h0; exact hb rfl
    · split at he
      · cases he
      · rename_i hb
        simp only [intBin] at h
        split at h <;> simp at h
        rw [← h.1]
        intro h0; subst h0; exact hb rfl
    · split at he
      · simp only [intBin, PR.need.injEq] at h
        rw [← h.1]; exact Int.natCast_nonneg _
      · cases he
    · split at he
      · simp only [intBin, PR.need.injEq] at h
        rw [← h.1]; exact Int.natCast_nonneg _
      · cases he
  · rename_i h1; cases h1
  · split at h
    · split at h <;> cases h
    · split at h <;> cases h
    · cases h
theorem guard_ok {op t x y a b} (h : ¬ (a = .nilIface ∧ b = .nilIface)) (h2 : ∀ c d, ¬ (a = .agg c ∧ b = .agg d)) (w : World) : (eqGuard op t x y a b).run P w = .ok () w := by
  have key : ∀ op' : BinOp, (op' = .eql ∨ op' = .neq) → (eqGuard op' t x y a b).run P w = .ok () w := by
    intro op' ho
    rcases ho with rfl | rfl <;> unfold eqGuard <;> simp only [Bool.not_true, Bool.false_eq_true, if_false] <;> split <;>
      first | (exfalso; exact h ⟨rfl, rfl⟩) | (exfalso; exact h2 _ _ ⟨rfl, rfl⟩) | rfl
  cases op <;> first | rfl | exact key _ (.inl rfl) | exact key _ (.inr rfl)
theorem eqV_guard {t x y b} (h : eqV P t x y = some b) : ¬ (x = .nilIface ∧ y = .nilIface) ∧ ∀ c d, ¬ (x = .agg c ∧ y = .agg d) := by
  constructor
  · rintro ⟨rfl, rfl⟩
    unfold eqV at h
    split at h <;> simp_all
  · rintro c d ⟨rfl, rfl⟩
    unfold eqV at h
    split at h <;> simp_all
theorem eq_bin {t x y b} (h : eqV P t x y = some b) : binOp .eql t x y = (do pure (.bool (← Op.equal t x y))) ∧ binOp .neq t x y = (do pure (.bool (!(← Op.equal t x y)))) := by
  unfold eqV at h
  split at h <;> first | exact ⟨rfl, rfl⟩ | cases h
theorem binOp_t {op t u k a k' b} : binOp op t (.int k a) (.int k' b) = binOp op u (.int k a) (.int k' b) := by cases op <;> rfl
theorem binV_ok {op t x y v xo yo} : (∀ c, binV P op t x y = .need c v → c → Is (do eqGuard op t xo yo x y; binOp op t x y) P v) ∧ (binV P op t x y = .val v → Is (do eqGuard op t xo yo x y; binOp op t x y) P v) := by
  have key : ∀ (Z : PR), binV P op t x y = Z → (∀ c, Z = .need c v → c → Is (do eqGuard op t xo yo x y; binOp op t x y) P v) ∧ (Z = .val v → Is (do eqGuard op t xo yo x y; binOp op t x y) P v) := by
    intro Z hZ
    unfold binV at hZ
    split at hZ
    · rename_i k a k' b
      subst hZ
      constructor
      · intro c h hc w
        simp only [Sem.run_bind, guard_ok (P := P) (a := .int k a) (b := .int k' b) (by simp) (by simp) w, Result.andThen_ok]
        rw [binOp_t (u := 0)]; exact intBin_ok.1 c h hc w
      · intro h w
        simp only [Sem.run_bind, guard_ok (P := P) (a := .int k a) (b := .int k' b) (by simp) (by simp) w, Result.andThen_ok]
        rw [binOp_t (u := 0)]; exact intBin_ok.2 h w
    · rename_i a b
      subst hZ
      have e : binOp op t (.string a) (.string b) = Op.stringOp op a b := by cases op <;> rfl
      constructor
      · intro c h hc w
        simp only [Sem.run_bind, guard_ok (P := P) (a := .string a) (b := .string b) (by simp) (by simp) w, Result.andThen_ok, e]
        exact strBin_ok.1 c h hc w
      · intro h w
        simp only [Sem.run_bind, guard_ok (P := P) (a := .string a) (b := .string b) (by simp) (by simp) w, Result.andThen_ok, e]
        exact strBin_ok.2 h w
    · rename_i x' y' h1 h2
      split at hZ
      · split at hZ
        · rename_i b hb
          subst hZ
          refine ⟨fun c h => by simp at h, fun h w => ?_⟩
          simp only [PR.val.injEq] at h; subst h
          obtain ⟨g1, g2⟩ := eqV_guard hb
          simp only [Sem.run_bind, guard_ok (P := P) g1 g2 w, Result.andThen_ok]
          rw [(eq_bin hb).1]; simp [eqV_ok hb w]
        · subst hZ; exact ⟨fun c h => by simp at h, fun h => by simp at h⟩
      · split at hZ
        · rename_i b hb
          subst hZ
          refine ⟨fun c h => by simp at h, fun h w => ?_⟩
          simp only [PR.val.injEq] at h; subst h
          obtain ⟨g1, g2⟩ := eqV_guard hb
          simp only [Sem.run_bind, guard_ok (P := P) g1 g2 w, Result.andThen_ok]
          rw [(eq_bin hb).2]; simp [eqV_ok hb w]
        · subst hZ; exact ⟨fun c h => by simp at h, fun h => by simp at h⟩
      · subst hZ; exact ⟨fun c h => by simp at h, fun h => by simp at h⟩
  exact key _ rfl
end
end Go.SX
