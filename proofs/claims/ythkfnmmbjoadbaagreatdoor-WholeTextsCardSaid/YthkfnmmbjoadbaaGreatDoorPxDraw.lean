/- SX, part 9: regions that draw their order and change memory: what only reads, from slots that stay, is taken first; the rest comes up in every order. -/
import Derived.Test.YthkfnmmbjoadbaaGreatDoorPxApp
import Derived.OrdersHeld
set_option linter.unusedVariables false
set_option linter.unusedSimpArgs false
namespace Go.SX

def nthB : List Bool → Nat → Bool
  | [], _ => false
  | x :: _, 0 => x
  | _ :: r, k + 1 => nthB r k
theorem nthB_eq : ∀ (l : List Bool) (k : Nat), nthB l k = l.toArray.getD k false
  | [], k => by simp [nthB]
  | x :: r, 0 => by simp [nthB]
  | x :: r, k + 1 => by
    have := nthB_eq r k
    simp only [nthB, this]
    simp [Array.getD_eq_getD_getElem?]
def bindsA (e : Edge) : Bool :=
  match e.ground with
  | .textOnly _ => false
  | .gcOnly _ => false
  | _ => true
theorem bindsA_eq (e : Edge) : bindsA e = Region.binds .any e := by
  unfold bindsA Region.binds
  cases e.ground <;> rfl
def edgeOk (L : List Bool) : List Edge → Bool
  | [] => true
  | e :: r => match bindsA e with
    | false => edgeOk L r
    | true => match nthB L e.on with
      | true => edgeOk L r
      | false => false
theorem edgeOk_iff (L : List Bool) : ∀ (l : List Edge), edgeOk L l = true ↔ ∀ e ∈ l, Region.binds .any e = true → L.toArray.getD e.on false = true
  | [] => by simp [edgeOk]
  | e :: r => by
    have ih := edgeOk_iff L r
    simp only [edgeOk, bindsA_eq, nthB_eq, List.forall_mem_cons]
    cases h1 : Region.binds .any e with
    | false => simp [ih]
    | true =>
      cases h2 : L.toArray.getD e.on false with
      | true => simp [ih]
      | false => simp
def rdyL (L : List Bool) : List Oper → List Bool → Nat → List Nat
  | o :: r, false :: l, i => match edgeOk L o.after.toList with
    | true => i :: rdyL L r l (i + 1)
    | false => rdyL L r l (i + 1)
  | _ :: r, true :: l, i => rdyL L r l (i + 1)
  | _, _, _ => []
theorem mem_rdyL (L : List Bool) : ∀ (os : List Oper) (l : List Bool) (k i : Nat), i ∈ rdyL L os l k ↔ ∃ (j : Nat) (o : Oper), i = k + j ∧ os[j]? = some o ∧ l[j]? = some false ∧ edgeOk L o.after.toList = true
  | [], l, k, i => by simp [rdyL]
  | o :: r, [], k, i => by simp [rdyL]
  | o :: r, true :: l, k, i => by
    rw [rdyL, mem_rdyL L r l (k + 1) i]
    constructor
    · rintro ⟨j, o', h1, h2, h3, h4⟩; exact ⟨j + 1, o', by omega, by simpa using h2, by simpa using h3, h4⟩
    · rintro ⟨j, o', h1, h2, h3, h4⟩
      cases j with
      | zero => simp at h3
      | succ j => exact ⟨j, o', by omega, by simpa using h2, by simpa using h3, h4⟩
  | o :: r, false :: l, k, i => by
    have ih := mem_rdyL L r l (k + 1) i
    rw [rdyL]
    cases he : edgeOk L o.after.toList with
    | true =>
      simp only [List.mem_cons, ih]
      constructor
      · rintro (rfl | ⟨j, o', h1, h2, h3, h4⟩)
        · exact ⟨0, o, by omega, by simp, by simp, he⟩
        · exact ⟨j + 1, o', by omega, by simpa using h2, by simpa using h3, h4⟩
      · rintro ⟨j, o', h1, h2, h3, h4⟩
        cases j with
        | zero => left; omega
        | succ j => right; exact ⟨j, o', by omega, by simpa using h2, by simpa using h3, h4⟩
    | false =>
      simp only [ih]
      constructor
      · rintro ⟨j, o', h1, h2, h3, h4⟩; exact ⟨j + 1, o', by omega, by simpa using h2, by simpa using h3, h4⟩
      · rintro ⟨j, o', h1, h2, h3, h4⟩
        cases j with
        | zero => simp at h2; subst h2; rw [he] at h4; cases h4
        | succ j => exact ⟨j, o', by omega, by simpa using h2, by simpa using h3, h4⟩
theorem rdyL_ready {ops : Array Oper} {L : List Bool} (hl : L.length = ops.size) (i : Nat) : i ∈ rdyL L ops.toList L 0 ↔ i ∈ Region.ready .any ops L.toArray := by
  rw [mem_rdyL, mem_ready]
  constructor
  · rintro ⟨j, o, rfl, h2, h3, h4⟩
    simp only [Nat.zero_add]
    refine ⟨by simp [Array.getD_eq_getD_getElem?, h3], o, by simpa using h2, fun e he hb => (edgeOk_iff L _).1 h4 e (by simpa using he) hb⟩
  · rintro ⟨h1, o, h2, h3⟩
    have hi : i < L.length := by rw [hl]; exact (Array.getElem?_eq_some_iff.1 h2).1
    refine ⟨i, o, by omega, by simpa using h2, ?_, (edgeOk_iff L _).2 fun e he hb => h3 e (by simpa using he) hb⟩
    simp only [Array.getD_eq_getD_getElem?, List.getElem?_toArray, List.getElem?_eq_getElem hi, Option.getD_some] at h1
    rw [List.getElem?_eq_getElem hi, h1]
def setB : List Bool → Nat → List Bool
  | [], _ => []
  | _ :: r, 0 => true :: r
  | x :: r, k + 1 => x :: setB r k
theorem setB_eq : ∀ (l : List Bool) (k : Nat), (setB l k).toArray = l.toArray.setIfInBounds k true
  | [], k => by simp [setB]
  | x :: r, 0 => by simp [setB]
  | x :: r, k + 1 => by
    have := setB_eq r k
    simp only [List.setIfInBounds_toArray] at this ⊢
    have h : setB r k = r.set k true := by simpa using this
    simp [setB, h]
theorem setB_length (l : List Bool) (k : Nat) : (setB l k).length = l.length := by
  have := congrArg Array.size (setB_eq l k)
  simpa using this
/-- Two operations of which neither waits for the other touch other temporaries. -/
def allApart (ops : Array Oper) : Bool :=
  Region.noSelect ops && (List.range ops.size).all fun i => (List.range ops.size).all fun j => i == j || match ops[i]?, ops[j]? with
    | some oi, some oj => oj.after.any (fun e => Region.binds .any e && e.on == i) || oi.after.any (fun e => Region.binds .any e && e.on == j) || oi.apart ops oj
    | _, _ => true
theorem allApart_free {ops : Array Oper} (h : allApart ops = true) {i : Nat} {oi : Oper} (hi : ops[i]? = some oi) {listed : Array Bool} (hr : i ∈ Region.ready .any ops listed) (hsz : listed.size = ops.size) :
    ∀ j oj, ops[j]? = some oj → j ≠ i → listed.getD j true = false → (∀ e ∈ oj.after, Region.binds .any e = true → e.on ≠ i) → oi.apart ops oj = true := by
  intro j oj hj hne hun hno
  unfold allApart at h
  simp only [Bool.and_eq_true, List.all_eq_true, List.mem_range] at h
  have hjl := (Array.getElem?_eq_some_iff.1 hj).1
  have h1 := h.2 i (Array.getElem?_eq_some_iff.1 hi).1 j hjl
  simp only [hi, hj, Bool.or_eq_true, beq_iff_eq, Ne.symm hne, false_or] at h1
  rcases h1 with (h1 | h1) | h1
  · obtain ⟨e, he, hb⟩ := Array.any_eq_true'.1 h1
    simp only [Bool.and_eq_true, beq_iff_eq] at hb
    exact absurd hb.2 (hno e he hb.1)
  · obtain ⟨e, he, hb⟩ := Array.any_eq_true'.1 h1
    simp only [Bool.and_eq_true, beq_iff_eq] at hb
    obtain ⟨_, o, ho, hall⟩ := mem_ready.1 hr
    have : o = oi := Option.some.inj (ho.symm.trans hi)
    subst this
    have h2 := hall e he hb.1
    rw [hb.2] at h2
    have h3 : listed[j]? = some true := by
      simp only [Array.getD_eq_getD_getElem?] at h2
      cases hq : listed[j]? with
      | none => rw [hq] at h2; simp at h2
      | some b => rw [hq] at h2; simp at h2; rw [h2]
    simp [Array.getD_eq_getD_getElem?, h3] at hun
  · exact h1

/-- The slots of 'm0' that are live are as they were. -/
def Keep : Mem → Mem → Prop
  | [], _ => True
  | ⟨b, .dead⟩ :: r, s' :: r' => s'.b = b ∧ Keep r r'
  | s :: r, s' :: r' => s = s' ∧ Keep r r'
  | _, [] => False
theorem Keep_ok : ∀ {m0 m : Mem}, Keep m0 m → ∀ (k : Nat) (s : Slot), m0[k]? = some s → s.live = true → m[k]? = some s
  | [], m, _, k, s, h, _ => by simp at h
  | ⟨b, o⟩ :: r, [], h, k, s, hk, hs => by
    cases o <;> exact h.elim
  | ⟨b, o⟩ :: r, x :: r', h, k, s, hk, hs => by
    cases o with
    | dead =>
      cases k with
      | zero => simp only [List.getElem?_cons_zero, Option.some.injEq] at hk; subst hk; simp [Slot.live, SO.ob] at hs
      | succ k => simpa using Keep_ok h.2 k s (by simpa using hk) hs
    | cells c t f =>
      cases k with
      | zero => rw [List.getElem?_cons_zero, ← h.1]; exact hk
      | succ k => simpa using Keep_ok h.2 k s (by simpa using hk) hs
    | obj ob =>
      cases k with
      | zero => rw [List.getElem?_cons_zero, ← h.1]; exact hk
      | succ k => simpa using Keep_ok h.2 k s (by simpa using hk) hs
theorem Keep_ext : ∀ {m0 m : Mem}, Keep m0 m → m0.ext m
  | [], m, _ => fun k s h => by simp at h
  | ⟨b, o⟩ :: r, [], h => by
    cases o <;> exact h.elim
  | ⟨b, o⟩ :: r, x :: r', h => fun k s hk => by
    cases o with
    | dead =>
      cases k with
      | zero => rw [List.getElem?_cons_zero] at hk; obtain rfl := Option.some.inj hk; exact ⟨x, rfl, h.1⟩
      | succ k => simpa using Keep_ext h.2 k s (by simpa using hk)
    | cells c t f =>
      cases k with
      | zero => rw [List.getElem?_cons_zero] at hk; obtain rfl := Option.some.inj hk; exact ⟨x, rfl, by rw [← h.1]⟩
      | succ k => simpa using Keep_ext h.2 k s (by simpa using hk)
    | obj ob =>
      cases k with
      | zero => rw [List.getElem?_cons_zero] at hk; obtain rfl := Option.some.inj hk; exact ⟨x, rfl, by rw [← h.1]⟩
      | succ k => simpa using Keep_ext h.2 k s (by simpa using hk)
theorem Keep_has {m0 m : Mem} {g0 g : GH} {w : World} (h : Keep m0 m) (hw : Has w g m) (hg : g0.le g) : Has w g0 m0 := by
  refine ⟨fun b o hb => hw.sub b o (hg b o hb), fun s hs o ho => ?_, fun i j s t hi hj hs ht hb => ?_, fun b hb => ?_⟩
  · obtain ⟨k, hk⟩ := List.mem_iff_getElem?.1 hs
    exact hw.own s (List.mem_of_getElem? (Keep_ok h k s hk (live_iff.2 ⟨o, ho⟩))) o ho
  · exact hw.inj i j s t (Keep_ok h i s hi hs) (Keep_ok h j t hj ht) hs ht hb
  · obtain ⟨s, hs, rfl, o, ho⟩ := Mem.mem_lives.1 hb
    obtain ⟨k, hk⟩ := List.mem_iff_getElem?.1 hs
    have h1 := hw.apart s.b (Mem.mem_lives.2 ⟨s, List.mem_of_getElem? (Keep_ok h k s hk (live_iff.2 ⟨o, ho⟩)), rfl, o, ho⟩)
    cases hq : g0 s.b with
    | none => rfl
    | some x => rw [hg _ _ hq] at h1; cases h1
/-- What is masked. -/
def mask : Mem → List Nat → Nat → Mem
  | [], _, _ => []
  | s :: r, is, i => (match is.contains i with
    | true => s
    | false => ⟨s.b, .dead⟩) :: mask r is (i + 1)

structure OAnd (x y : Prop) : Prop where
  mk ::
  l : x
  r : y
section
variable {P : Program} {n : Cfg}

/-- Taken first: what only reckons; a read through a pointer into a held slot, or of what is known for good. -/
def quietB (o : Oper) (e : Env) (m0 : Mem) : Bool :=
  match o.op with
  | .move _ | .assign _ | .pick .. | .field .. | .indexAddr .. | .index .. | .slice .. | .binOp .. | .unOp .. | .extract .. | .makeInterface .. | .makeFunc .. | .build .. => true
  | .nilCheck x | .fieldAddr _ x _ => match e.op x with
    | some (.own k _) => match nth m0 k with
      | some _ => true
      | none => false
    | _ => true
  | .load _ x => match e.op x with
    | some (.own k _) => match nth m0 k with
      | some ⟨_, .cells _ _ _⟩ => true
      | _ => false
    | _ => true
  | .convert .. => true
  | .call ⟨.builtin .len, _, _⟩ | .call ⟨.builtin .cap, _, _⟩ | .call ⟨.builtin .min, _, _⟩ | .call ⟨.builtin .max, _, _⟩ => true
  | _ => false
def pickQ (ops : List Oper) (e : Env) (m0 : Mem) : List Nat → Option (Nat × Oper)
  | [] => none
  | i :: r => match nthO ops i with
    | none => pickQ ops e m0 r
    | some o => match quietB o e m0 with
      | true => some (i, o)
      | false => pickQ ops e m0 r
theorem pickQ_mem {ops : List Oper} {e : Env} {m0 : Mem} : ∀ {l : List Nat} {i : Nat} {o : Oper}, pickQ ops e m0 l = some (i, o) → i ∈ l ∧ ops[i]? = some o
  | [], i, o, h => by simp [pickQ] at h
  | j :: r, i, o, h => by
    simp only [pickQ] at h
    split at h
    · obtain ⟨h1, h2⟩ := pickQ_mem h; exact ⟨List.mem_cons_of_mem _ h1, h2⟩
    · rename_i o' ho
      rw [nthO_eq] at ho
      split at h
      · simp only [Option.some.injEq, Prod.mk.injEq] at h
        obtain ⟨rfl, rfl⟩ := h
        exact ⟨List.mem_cons_self .., ho⟩
      · obtain ⟨h1, h2⟩ := pickQ_mem h; exact ⟨List.mem_cons_of_mem _ h1, h2⟩
def allR : List Nat → (Nat → Prop) → Prop
  | [], _ => True
  | [i], F => F i
  | i :: r, F => OAnd (F i) (allR r F)
theorem allR_mem : ∀ {l : List Nat} {F : Nat → Prop}, allR l F → ∀ i ∈ l, F i
  | [], F, _, i, hi => by cases hi
  | [j], F, h, i, hi => by obtain rfl := List.mem_singleton.1 hi; exact h
  | j :: k :: r, F, h, i, hi => by
    rcases List.mem_cons.1 hi with rfl | hi
    · exact h.l
    · exact allR_mem h.r i hi
/-- With the guard looked at: 'take' if it says yes, 'skip' if no. -/
def guarded (all : List Oper) (o : Oper) (e : Env) (take skip : Env → Prop) : Prop :=
  match o.guard with
  | none => take e
  | some (j, want) => match nthO all j with
    | none => False
    | some oj => match oj.dst with
      | none => False
      | some t => match e.get t with
        | some .tt => match want with
          | true => take e
          | false => skip e
        | some .ff => match want with
          | false => take e
          | true => skip e
        | some (.val (.bool b)) => match want with
          | true => OSplit b (take ((t, .tt) :: e)) (skip ((t, .ff) :: e))
          | false => OSplit b (skip ((t, .tt) :: e)) (take ((t, .ff) :: e))
        | some (.val v) => match notBool v with
          | true => skip e
          | false => False
        | _ => False
theorem guarded_ok {ops : Array Oper} {o : Oper} {e : Env} {m : Mem} {a : Act} {take skip : Env → Prop} (h : guarded ops.toList o e take skip) (ha : Agr a n e m) :
    ∃ e', Agr a n e' m ∧ ((Region.wanted o (yielded ops a.tmps) = true ∧ take e') ∨ (Region.wanted o (yielded ops a.tmps) = false ∧ skip e')) := by
  unfold guarded at h
  split at h
  · rename_i hg; exact ⟨e, ha, .inl ⟨by simp [Region.wanted, hg], h⟩⟩
  · rename_i j want hg
    split at h
    · exact h.elim
    · rename_i oj hj
      rw [nthO_eq] at hj
      split at h
      · exact h.elim
      · rename_i t ht
        have hjt : (ops[j]?).bind (·.dst) = some t := by
          have : ops[j]? = some oj := by simpa using hj
          simp [this, ht]
        have wt : ∀ {e : Env} {x : SV} {b : Bool}, Agr a n e m → e.get t = some x → x.den m = some (.bool b) → Region.wanted o (yielded ops a.tmps) = (b == want) := fun ha hx hd => by
          simp [Region.wanted, hg, yielded_of ha hjt hx hd]
        split at h
        · rename_i hx
          split at h
          · exact ⟨e, ha, .inl ⟨wt ha hx (b := true) rfl, h⟩⟩
          · exact ⟨e, ha, .inr ⟨wt ha hx (b := true) rfl, h⟩⟩
        · rename_i hx
          split at h
          · exact ⟨e, ha, .inl ⟨wt ha hx (b := false) rfl, h⟩⟩
          · exact ⟨e, ha, .inr ⟨wt ha hx (b := false) rfl, h⟩⟩
        · rename_i b hx
          have g1 : Env.get ((t, SV.tt) :: e) t = some .tt := by simp [Env.get_cons]
          have g2 : Env.get ((t, SV.ff) :: e) t = some .ff := by simp [Env.get_cons]
          obtain ⟨k1, k2⟩ := ha.know hx
          split at h
          · cases b with
            | true => exact ⟨_, k1 rfl, .inl ⟨wt (k1 rfl) g1 (b := true) rfl, h.t rfl⟩⟩
            | false => exact ⟨_, k2 rfl, .inr ⟨wt (k2 rfl) g2 (b := false) rfl, h.f rfl⟩⟩
          · cases b with
            | true => exact ⟨_, k1 rfl, .inr ⟨wt (k1 rfl) g1 (b := true) rfl, h.t rfl⟩⟩
            | false => exact ⟨_, k2 rfl, .inl ⟨wt (k2 rfl) g2 (b := false) rfl, h.f rfl⟩⟩
        · rename_i v _ hx
          split at h
          · rename_i hv
            exact ⟨e, ha, .inr ⟨not_wanted ha hg hjt hx hv, h⟩⟩
          · exact h.elim
        · exact h.elim

def dropL (loud : List Nat) : List Nat → List Nat
  | [] => []
  | i :: r => match loud.contains i with
    | true => dropL loud r
    | false => i :: dropL loud r
theorem dropL_mem {loud : List Nat} : ∀ {l : List Nat} {i : Nat}, i ∈ dropL loud l → i ∈ l
  | j :: r, i, h => by
    simp only [dropL] at h
    split at h
    · exact List.mem_cons_of_mem _ (dropL_mem h)
    · rcases List.mem_cons.1 h with rfl | h
      · exact List.mem_cons_self
      · exact List.mem_cons_of_mem _ (dropL_mem h)
def vcH (P : Program) (n : Cfg) (ops : List Oper) (loud : List Nat) (m0 : Mem) (g0 : GH) (K : Env → Mem → GH → Prop) : Nat → List Bool → Env → Mem → GH → Prop
  | 0, L, e, m, g => match rdyL L ops L 0 with
    | [] => K e m g
    | _ => False
  | f + 1, L, e, m, g => match rdyL L ops L 0 with
    | [] => K e m g
    | rs => match pickQ ops e m0 (dropL loud rs) with
      | some (i, o) => guarded ops o e (fun e => vcV P n o e m0 g0 fun s => putK n o.dst s e fun e => vcH P n ops loud m0 g0 K f (setB L i) e m g) (fun e => putK n o.dst (.val undef) e fun e => vcH P n ops loud m0 g0 K f (setB L i) e m g)
      | none => allR rs fun i => match nthO ops i with
        | some o => guarded ops o e (fun e => vcOp P n o e m g fun e m' g' => OAnd (Keep m0 m') (vcH P n ops loud m0 g0 K f (setB L i) e m' g')) (fun e => putK n o.dst (.val undef) e fun e => vcH P n ops loud m0 g0 K f (setB L i) e m g)
        | none => False

/-- The end of such a region, seen from its beginning. -/
def endQ (n : Cfg) (w0 : World) (m00 : Mem) (g00 : GH) (K : Env → Mem → GH → Prop) : Exit → Act → World → Prop := fun x a' w' =>
  (x = .normal ∧ ∃ e' m' g', Agr a' n e' m' ∧ Has w' g' m' ∧ Fr w0 m00 g00 w' m' g' ∧ K e' m' g') ∨ ∃ ch g', x = .panic ch ∧ n.X ch ∧ Agr a' n [] [] ∧ Has w' g' [] ∧ Fr w0 m00 g00 w' [] g'
theorem endQ_put {w0 : World} {m00 : Mem} {g00 : GH} {K : Env → Mem → GH → Prop} (d : Option Nat) (v : Value) (c : List PanicEntry) (a : Act) (w : World) (h : endQ n w0 m00 g00 K (.panic c) (a.put d v) w) : endQ n w0 m00 g00 K (.panic c) a w := by
  rcases h with ⟨h, _⟩ | ⟨ch, g', h1, h2, h3, h4, h5⟩
  · cases h
  · refine .inr ⟨ch, g', h1, h2, ⟨?_, ?_, fun t x hx => by simp [Env.get] at hx⟩, h4, h5⟩
    · have := h3.defers
      cases d <;> simpa [Act.put] using this
    · have := h3.size
      cases d <;> simpa [Act.put] using this
theorem vcH_ok {ops : Array Oper} {loud : List Nat} {m0 : Mem} {g0 : GH} {K : Env → Mem → GH → Prop} (hap : allApart ops = true) {w0 : World} {m00 : Mem} {g00 : GH} :
    ∀ (f : Nat) (L : List Bool) (e : Env) (m : Mem) (g : GH), L.length = ops.size → m0.ext m → g0.le g → vcH P n ops.toList loud m0 g0 K f L e m g →
      ∀ a w, Agr a n e m → Has w g m → Has w g0 m0 → Fr w0 m00 g00 w m g → wpAnyH P .any ops (endQ n w0 m00 g00 K) (fun w' => Has w' g0 m0) f L.toArray a w := by
  have hns : Region.noSelect ops = true := by unfold allApart at hap; simp only [Bool.and_eq_true] at hap; exact hap.1
  intro f
  induction f with
  | zero =>
    intro L e m g hl hx hg h a w ha hw hw0 hf
    simp only [vcH] at h
    split at h
    · rename_i hr
      have hr' : Region.ready .any ops L.toArray = [] := by
        apply List.eq_nil_iff_forall_not_mem.2
        intro i hi
        rw [← rdyL_ready hl, hr] at hi
        cases hi
      exact wpAnyH_done hr' (.inl ⟨rfl, e, m, g, ha, hw, hf, h⟩) 0
    · exact h.elim
  | succ f ih =>
    intro L e m g hl hx hg h a w ha hw hw0 hf
    simp only [vcH] at h
    split at h
    · rename_i hr
      have hr' : Region.ready .any ops L.toArray = [] := by
        apply List.eq_nil_iff_forall_not_mem.2
        intro i hi
        rw [← rdyL_ready hl, hr] at hi
        cases hi
      exact wpAnyH_done hr' (.inl ⟨rfl, e, m, g, ha, hw, hf, h⟩) _
    · rename_i hne
      split at h
      · rename_i i o hp
        obtain ⟨hi1, hi2⟩ := pickQ_mem hp
        have hi3 : ops[i]? = some o := by simpa using hi2
        have hready := (rdyL_ready hl i).1 (dropL_mem hi1)
        obtain ⟨e1, ha1, hh⟩ := guarded_ok h ha
        have fin : ∀ (v : Value) (e' : Env), YieldsIf P ops (fun w' => Has w' g0 m0) o v a → Agr (a.put o.dst v) n e' m → vcH P n ops.toList loud m0 g0 K f (setB L i) e' m g →
            wpAnyH P .any ops (endQ n w0 m00 g00 K) (fun w' => Has w' g0 m0) (f + 1) L.toArray a w := by
          intro v e' hy ha' hv
          refine wpAnyH_first hi3 (Region.noSelect_spec hns) (fun c a w hc => endQ_put _ _ c a w hc) f L.toArray a w (allApart_free hap hi3 hready (by simpa using hl)) hready hy hw0 ?_
          rw [← setB_eq]
          exact ih _ _ _ _ (by rw [setB_length]; exact hl) hx hg hv _ _ ha' hw hw0 hf
        rcases hh with ⟨hwant, ht⟩ | ⟨hwant, hs⟩
        · obtain ⟨s, h1, h2⟩ := (vcV_ok ht).ok
          obtain ⟨v, h3, h4⟩ := h1 a (ha1.w0 hx)
          obtain ⟨e', h5, h6⟩ := putK_ok h2 ha1 (SV.den_ext hx h3)
          exact fin v e' (.inl ⟨hwant, fun w' hw' => h4 w' hw'⟩) h5 h6
        · obtain ⟨e', h5, h6⟩ := putK_ok hs ha1 (v := undef) rfl
          exact fin undef e' (.inr ⟨hwant, rfl⟩) h5 h6
      · refine wpAnyH_all rfl (fun h0 => ?_) fun i hi => ?_
        · apply hne
          apply List.eq_nil_iff_forall_not_mem.2
          intro i hi
          rw [rdyL_ready hl, h0] at hi
          cases hi
        · have hF := allR_mem h i ((rdyL_ready hl i).2 hi)
          split at hF
          · rename_i o ho
            rw [nthO_eq] at ho
            have ho' : ops[i]? = some o := by simpa using ho
            obtain ⟨e1, ha1, hh⟩ := guarded_ok hF ha
            unfold wpOp
            simp only [ho']
            rcases hh with ⟨hwant, ht⟩ | ⟨hwant, hs⟩
            · rw [if_pos hwant]
              refine .inl ((vcOp_ok ht).ok a w ha1 hw _ _ ?_ fun ch a' w' g' k1 k2 k3 k4 => .inr ⟨ch, g', rfl, k4, k1, k2, hf.trans k3⟩)
              intro a' w' e' m' g' k1 k2 k3 k4
              have hg' := hg.trans k3.le
              have hk := Keep_has k4.l k2 hg'
              refine ⟨hk, ?_⟩
              rw [← setB_eq]
              exact ih _ _ _ _ (by rw [setB_length]; exact hl) (Keep_ext k4.l) hg' k4.r _ _ k1 k2 hk (hf.trans k3)
            · rw [if_neg (by simp [hwant])]
              obtain ⟨e', h5, h6⟩ := putK_ok hs ha1 (v := undef) rfl
              refine ⟨hw0, ?_⟩
              rw [← setB_eq]
              exact ih _ _ _ _ (by rw [setB_length]; exact hl) hx hg h6 _ _ h5 hw hw0 hf
          · exact hF.elim
theorem mask_get : ∀ (m : Mem) (is : List Nat) (i k : Nat) (s : Slot), (mask m is i)[k]? = some s → ∃ t, m[k]? = some t ∧ t.b = s.b ∧ (s.live = true → s = t)
  | [], is, i, k, s, h => by simp [mask] at h
  | x :: r, is, i, 0, s, h => by
    simp only [mask, List.getElem?_cons_zero, Option.some.injEq] at h
    refine ⟨x, rfl, ?_⟩
    split at h
    · subst h; exact ⟨rfl, fun _ => rfl⟩
    · subst h; exact ⟨rfl, fun h => by simp [Slot.live, SO.ob] at h⟩
  | x :: r, is, i, k + 1, s, h => by
    simpa using mask_get r is (i + 1) k s (by simpa [mask] using h)
/-- A region that draws its order. 'm0': the memory with what the region changes masked. -/
theorem COK.drawL {i : Nat} {ops : Array Oper} {e : Env} {m : Mem} {g : GH} {K : KK} (loud is : List Nat) (hm : P.follows .mixedOrders = true) (hap : allApart ops = true)
    (h : vcH P n ops.toList loud (mask m is 0) g (K .normal) ops.toList.length (ops.toList.map fun _ => false) e m g) : COK P n (.region i ops true) e m g K := by
  refine ⟨fun a w ha hw => ?_⟩
  have hw1 : Has { w with drawn := w.drawn + 1 } g m := hw.drawn
  have hx : (mask m is 0).ext m := fun k s hk => by
    obtain ⟨t, h1, h2, _⟩ := mask_get _ _ _ _ _ hk
    exact ⟨t, h1, h2⟩
  have hw0 : Has { w with drawn := w.drawn + 1 } g (mask m is 0) := by
    have key : ∀ {k : Nat} {s : Slot}, (mask m is 0)[k]? = some s → s.live = true → m[k]? = some s := fun hk hs => by
      obtain ⟨t, h1, _, h3⟩ := mask_get _ _ _ _ _ hk
      rw [h3 hs]; exact h1
    refine ⟨hw1.sub, fun s hs o ho => ?_, fun i j s t hi hj hs ht hb => hw1.inj i j s t (key hi hs) (key hj ht) hs ht hb, fun b hb => ?_⟩
    · obtain ⟨k, hk⟩ := List.mem_iff_getElem?.1 hs
      exact hw1.own s (List.mem_of_getElem? (key hk (live_iff.2 ⟨o, ho⟩))) o ho
    · obtain ⟨s, hs, rfl, o, ho⟩ := Mem.mem_lives.1 hb
      obtain ⟨k, hk⟩ := List.mem_iff_getElem?.1 hs
      exact hw1.apart _ (Mem.mem_lives.2 ⟨s, List.mem_of_getElem? (key hk (live_iff.2 ⟨o, ho⟩)), rfl, o, ho⟩)
  have hmain := vcH_ok (P := P) (n := n) hap (w0 := w) (m00 := m) (g00 := g) _ _ _ _ _ (by simp) hx (.refl _) h a _ ha hw1 hw0 Fr.drawn
  have hL : (ops.toList.map fun _ => false).toArray = Array.replicate ops.size false := by
    apply Array.toList_inj.1
    apply List.ext_getElem <;> simp
  rw [hL] at hmain
  refine wp_mono (wp_region_held hm (by simpa using hmain)) ?_
  rintro x a' w' (⟨rfl, e', m', g', h1, h2, h3, h4⟩ | ⟨ch, g', rfl, h1, h2, h3, h4⟩)
  · exact ⟨e', m', g', h1, h2, h3, .inl h4⟩
  · exact ⟨[], [], g', h2, h3, h4, .inr ⟨ch, rfl, h1⟩⟩
theorem COK.draw {i : Nat} {ops : Array Oper} {e : Env} {m : Mem} {g : GH} {K : KK} (is : List Nat) (hm : P.follows .mixedOrders = true) (hap : allApart ops = true)
    (h : vcH P n ops.toList [] (mask m is 0) g (K .normal) ops.toList.length (ops.toList.map fun _ => false) e m g) : COK P n (.region i ops true) e m g K := COK.drawL [] is hm hap h
end
end Go.SX
