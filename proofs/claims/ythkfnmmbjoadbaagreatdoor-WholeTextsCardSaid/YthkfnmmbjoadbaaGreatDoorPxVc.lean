/- SX, part 4: what is left to show of code, as a function. -/
import Derived.Test.YthkfnmmbjoadbaaGreatDoorPxPure
set_option linter.unusedVariables false
set_option linter.unusedSimpArgs false
namespace Go.SX

structure OSplit (b : Bool) (x y : Prop) : Prop where
  mk ::
  t : b = true → x
  f : b = false → y
def allOne : List Value → Bool
  | [] => true
  | v :: r => match v.oneCell' with
    | true => allOne r
    | false => false
theorem allOne_ok : ∀ {l : List Value}, allOne l = true → ∀ v ∈ l, v.oneCell' = true
  | [], _, v, h => by cases h
  | x :: r, h, v, hv => by
    simp only [allOne] at h
    split at h
    · rename_i hx
      rcases List.mem_cons.1 hv with rfl | hv
      · exact hx
      · exact allOne_ok h v hv
    · cases h
def nthO : List Oper → Nat → Option Oper
  | [], _ => none
  | x :: _, 0 => some x
  | _ :: r, k + 1 => nthO r k
theorem nthO_eq : ∀ (m : List Oper) (k : Nat), nthO m k = m[k]?
  | [], _ => by simp [nthO]
  | x :: _, 0 => by simp [nthO]
  | _ :: r, k + 1 => by simp [nthO, nthO_eq r k]
/-- 'len' elements, each of the cells z. -/
def repL (z : List Value) : Nat → List Value
  | 0 => []
  | n + 1 => z ++ repL z n
def gridL (size : Nat) : Nat → Nat → List (Nat × Nat)
  | 0, _ => []
  | n + 1, off => (off, size) :: gridL size n (off + size)

def vcOp (P : Program) (n : Cfg) (o : Oper) (e : Env) (m : Mem) (g : GH) (K : Env → Mem → GH → Prop) : Prop :=
  match o.op with
  | .move x => match e.op x with
    | some s => putK n o.dst s e fun e => K e m g
    | none => False
  | .assign x => match e.op x with
    | some s => putK n o.dst s e fun e => K e m g
    | none => False
  | .pick c a b => match e.op c with
    | some .tt => match e.op a with
      | some s => putK n o.dst s e fun e => K e m g
      | none => False
    | some .ff => match e.op b with
      | some s => putK n o.dst s e fun e => K e m g
      | none => False
    | some (.val (.bool t)) => match e.va m a, e.va m b with
      | some (.bool x), some (.bool y) => putK n o.dst (.val (.bool (cond t x y))) e fun e => K e m g
      | some x, some y => putK n o.dst (.val (cond t x y)) e fun e => K e m g
      | _, _ => False
    | _ => False
  | .nilCheck x => match e.op x with
    | some (.own k q) => putK n o.dst (.own k q) e fun e => K e m g
    | _ => match pv P (e.va m) (.nilCheck x) with
      | .val v => putK n o.dst (.val v) e fun e => K e m g
      | .need c v => ONeed c (putK n o.dst (.val v) e fun e => K e m g)
      | .no => OOK P n o e m g K
  | .fieldAddr s x f => match e.op x with
    | some (.own k q) => match P.underlying s with
      | some (.struct fs) => match fs.toList[f]? with
        | some fd => match P.info? fd.type with
          | some i => match Nat.beq i.size 0 with
            | false => putK n o.dst (.own k (q + fd.offset)) e fun e => K e m g
            | true => False
          | none => False
        | none => False
      | _ => False
    | _ => match pv P (e.va m) (.fieldAddr s x f) with
      | .val v => putK n o.dst (.val v) e fun e => K e m g
      | .need c v => ONeed c (putK n o.dst (.val v) e fun e => K e m g)
      | .no => OOK P n o e m g K
  | .alloc t => match zeroL P t with
    | some z => ∀ b : Nat, snoc m ⟨b, .cells z t (0, 0)⟩ 0 fun k m' => putK n o.dst (.own k 0) e fun e => K e m' g
    | none => False
  | .box t x => match e.va m x with
    | some v => ∀ b : Nat, snoc m ⟨b, .cells v.cells.toList t (0, 0)⟩ 0 fun k m' => putK n o.dst (.own k 0) e fun e => K e m' g
    | none => False
  | .buildSlice t len ps => match P.underlying t, partsV (e.va m) ps.toList with
    | some (.slice el), some vs => match P.info? el, zeroL P el with
      | some i, some z => match Nat.ble (len * i.size) 16777216, Nat.beq z.length i.size with
        | true, true => match fillL (gridL i.size len 0) (repL z len) vs with
          | some c => ∀ b : Nat, snoc m ⟨b, .cells c el (0, 0)⟩ 0 fun k m' => putK n o.dst (.val (.slice (some ⟨b, 0, none⟩) len len)) e fun e => K e m' g
          | none => False
        | _, _ => False
      | _, _ => False
    | _, _ => False
  | .load t x => match e.op x with
    | some (.own k q) => match nth m k with
      | some ⟨b, .cells c t' fr⟩ => match aggN P t with
        | some none => match nthV c q with
          | some v => putK n o.dst (.val v) e fun e => K e m g
          | none => False
        | some (some sz) => match seg c q sz with
          | some l => putK n o.dst (.val (.agg l.toArray)) e fun e => K e m g
          | none => False
        | none => False
      | _ => OOK P n o e m g K
    | _ => OOK P n o e m g K
  | .store t x y => match e.op x, e.va m y with
    | some (.own k q), some v => match nth m k, P.info? t with
      | some ⟨b, .cells c t' (0, 0)⟩, some i => match Nat.beq v.cells.toList.length i.size, allOne v.cells.toList with
        | true, true => match spl c q v.cells.toList with
          | some c' => match setM m k ⟨b, .cells c' t' (0, 0)⟩ with
            | some m' => putK n o.dst (.val undef) e fun e => K e m' g
            | none => False
          | none => False
        | _, _ => False
      | _, _ => OOK P n o e m g K
    | _, _ => OOK P n o e m g K
  | op => match pv P (e.va m) op with
    | .val v => putK n o.dst (.val v) e fun e => K e m g
    | .need c v => ONeed c (putK n o.dst (.val v) e fun e => K e m g)
    | .no => OOK P n o e m g K

def notBool : Value → Bool
  | .bool _ => false
  | _ => true
def vcOps (P : Program) (n : Cfg) (all : List Oper) : List Oper → Env → Mem → GH → (Env → Mem → GH → Prop) → Prop
  | [], e, m, g, K => K e m g
  | o :: r, e, m, g, K => match o.guard with
    | none => vcOp P n o e m g fun e m g => vcOps P n all r e m g K
    | some (j, want) => match nthO all j with
      | none => False
      | some oj => match oj.dst with
        | none => False
        | some t => match e.get t with
          | some .tt => match want with
            | true => vcOp P n o e m g fun e m g => vcOps P n all r e m g K
            | false => putK n o.dst (.val undef) e fun e => vcOps P n all r e m g K
          | some .ff => match want with
            | false => vcOp P n o e m g fun e m g => vcOps P n all r e m g K
            | true => putK n o.dst (.val undef) e fun e => vcOps P n all r e m g K
          | some (.val (.bool b)) => match want with
            | true => OSplit b (vcOp P n o ((t, .tt) :: e) m g fun e m g => vcOps P n all r e m g K) (putK n o.dst (.val undef) ((t, .ff) :: e) fun e => vcOps P n all r e m g K)
            | false => OSplit b (putK n o.dst (.val undef) ((t, .tt) :: e) fun e => vcOps P n all r e m g K) (vcOp P n o ((t, .ff) :: e) m g fun e m g => vcOps P n all r e m g K)
          | some (.val v) => match notBool v with
            | true => putK n o.dst (.val undef) e fun e => vcOps P n all r e m g K
            | false => False
          | _ => False

def vcC (P : Program) (n : Cfg) : Code → Env → Mem → GH → KK → Prop
  | .skip, e, m, g, K => K .normal e m g
  | .ret, e, m, g, K => K .ret e m g
  | .exit i, e, m, g, K => K (.exit i) e m g
  | .seq x y, e, m, g, K => vcC P n x e m g (thenK (fun e m g => vcC P n y e m g K) K)
  | .block i c, e, m, g, K => vcC P n c e m g (blockK i K)
  | .cond c x y, e, m, g, K => match e.op c with
    | some .tt => vcC P n x e m g K
    | some .ff => vcC P n y e m g K
    | some (.val (.bool b)) => OSplit b (vcC P n x e m g K) (vcC P n y e m g K)
    | _ => False
  | .region i ops false, e, m, g, K => vcOps P n ops.toList ops.toList e m g (K .normal)
  | c, e, m, g, K => COK P n c e m g K

section
variable {P : Program} {n : Cfg} {o : Oper} {e : Env} {m : Mem} {g : GH} {K : Env → Mem → GH → Prop}

theorem OOK.val {s : SV} {v : Value} (hs : s.den m = some v) (hy : ∀ a w, Agr a n e m → Has w g m → (execOp a.eval o).run P w = .ok (.value v) w) (h : putK n o.dst s e fun e => K e m g) : OOK P n o e m g K :=
  ⟨fun a w ha hw next Q hn hX => by
    obtain ⟨e', h1, h2⟩ := putK_ok h ha hs
    unfold Oper.wp
    rw [hy a w ha hw]
    exact hn _ _ e' m g h1 hw (.refl _ _ _) h2⟩
theorem OOK.skipU (hy : ∀ a w, Agr a n e m → Has w g m → ∃ w' m', (execOp a.eval o).run P w = .ok .skip w' ∧ Has w' g m' ∧ m.ext m' ∧ Fr w m g w' m' g ∧ putK n o.dst (.val undef) e fun e => K e m' g) : OOK P n o e m g K :=
  ⟨fun a w ha hw next Q hn hX => by
    obtain ⟨w', m', h1, h2, h3, h4, h5⟩ := hy a w ha hw
    obtain ⟨e', h6, h7⟩ := putK_ok h5 (ha.ext h3) (v := undef) rfl
    unfold Oper.wp
    rw [h1]
    exact hn _ _ e' m' g h6 h2 h4 h7⟩
theorem OOK.pv (h : match pv P (e.va m) o.op with
      | .val v => putK n o.dst (.val v) e fun e => K e m g
      | .need c v => ONeed c (putK n o.dst (.val v) e fun e => K e m g)
      | .no => OOK P n o e m g K) : OOK P n o e m g K := by
  have key : ∀ r, Go.SX.pv P (e.va m) o.op = r → OOK P n o e m g K := by
    intro r hr
    rw [hr] at h
    cases r with
    | no => exact h
    | val v =>
      refine OOK.val (s := .val v) rfl (fun a w ha hw => ?_) h
      have := pv_ok (P := P) (ρ := e.va m) (ρ' := a.eval) (fun x v hx => ha.va hx) (fun _ => rfl) (o := o)
      rw [hr] at this
      exact this w
    | need c v =>
      refine OOK.val (s := .val v) rfl (fun a w ha hw => ?_) h.k
      have := pv_ok (P := P) (ρ := e.va m) (ρ' := a.eval) (fun x v hx => ha.va hx) (fun _ => rfl) (o := o)
      rw [hr] at this
      exact this h.c w
  exact key _ rfl
/-- A new block. -/
theorem OOK.new (so : SO) (ob : Obj) (hso : so.ob = some ob) (sv : Nat → Nat → SV) (v : Nat → Value)
    (hv : ∀ w, Has w g m → (sv w.heap.size m.length).den (m ++ [⟨w.heap.size, so⟩]) = some (v w.heap.size))
    (hy : ∀ a w, Agr a n e m → Has w g m → (execOp a.eval o).run P w = .ok (.value (v w.heap.size)) (w.alloc ob))
    (h : ∀ b : Nat, snoc m ⟨b, so⟩ 0 fun k m' => putK n o.dst (sv b k) e fun e => K e m' g) : OOK P n o e m g K :=
  ⟨fun a w ha hw next Q hn hX => by
    have h0 := h w.heap.size
    rw [snoc_eq] at h0
    simp only [Nat.zero_add] at h0
    obtain ⟨e', h6, h7⟩ := putK_ok h0 (ha.ext (Mem.ext_append m _)) (hv w hw)
    unfold Oper.wp
    rw [hy a w ha hw]
    exact hn _ _ e' _ g h6 (hw.alloc so ob hso) (Fr.alloc so ob) h7⟩
theorem den_own_snoc (m : Mem) (s : Slot) (off : Nat) : (SV.own m.length off).den (m ++ [s]) = some (.pointer (some ⟨s.b, off, none⟩)) := by
  simp [SV.den]
theorem run_newRow (w : World) (t : TypeId) (c : Array Value) : (newRow t c).run P w = .ok ⟨w.heap.size, 0, none⟩ (w.alloc (.cells c t)) := by
  simp only [newRow, newObj]
  rfl

theorem own_addr {a : Act} (ha : Agr a n e m) {x : Operand} {k q : Nat} (hx : e.op x = some (.own k q)) {s : Slot} (hk : m[k]? = some s) : a.eval x = .pointer (some ⟨s.b, q, none⟩) := by
  have := ha.op hx
  simp only [SV.den, hk, Option.map_some, Option.some.injEq] at this
  exact this.symm
theorem add_plain (g j q : Nat) : (⟨g, q, none⟩ : Addr).add j = ⟨g, q + j, none⟩ := by unfold Addr.add; split <;> simp_all

theorem vcOp_load {t : TypeId} {x : Operand} (hop : o.op = .load t x) {k q : Nat} (hx : e.op x = some (.own k q)) {b : Nat} {c : List Value} {t' : TypeId} {fr : Nat × Nat} (hk : m[k]? = some ⟨b, .cells c t' fr⟩) :
    (∀ v, aggN P t = some none → c[q]? = some v → putK n o.dst (.val v) e (fun e => K e m g) → OOK P n o e m g K) ∧
    (∀ sz l, aggN P t = some (some sz) → seg c q sz = some l → putK n o.dst (.val (.agg l.toArray)) e (fun e => K e m g) → OOK P n o e m g K) := by
  constructor
  · intro v ht hv h
    refine OOK.val (s := .val v) rfl (fun a w ha hw => ?_) h
    have hb := hw.own _ (List.mem_of_getElem? hk) _ rfl
    have hc : w.cell? ⟨b, q, none⟩ = some v := by
      simp only [World.cell?]
      rw [show (Slot.mk b (.cells c t' fr)).b = b from rfl] at hb
      rw [hb]
      simpa using hv
    simp [execOp, hop, own_addr ha hx hk, Instr.loadAt, Instr.sureAddr, loadVar, aggN_none ht, Go.load, Sem.run, hc]
  · intro sz l ht hv h
    refine OOK.val (s := .val (.agg l.toArray)) rfl (fun a w ha hw => ?_) h
    have hb := hw.own _ (List.mem_of_getElem? hk) _ rfl
    rw [show (Slot.mk b (.cells c t' fr)).b = b from rfl] at hb
    obtain ⟨h1, h2⟩ := seg_eq _ _ _ _ hv
    have hl : (loadCells ⟨b, q, none⟩ sz).run P w = .ok l.toArray w := by
      rw [← h1]
      refine run_loadCells_list (P := P) w ⟨b, q, none⟩ l fun j v hj => ?_
      rw [add_plain]
      simp only [World.cell?, hb]
      simpa using h2 j v hj
    obtain ⟨h3, h4⟩ := aggN_some ht w
    simp [execOp, hop, own_addr ha hx hk, Instr.loadAt, Instr.sureAddr, loadVar, h3, h4, hl]
theorem vcOp_store {t : TypeId} {x y : Operand} (hop : o.op = .store t x y) {k q : Nat} (hx : e.op x = some (.own k q)) {v : Value} (hy : e.va m y = some v) {b : Nat} {c : List Value} {t' : TypeId}
    (hk : m[k]? = some ⟨b, .cells c t' (0, 0)⟩) {i : TypeInfo} (hi : P.info? t = some i) (hsz : v.cells.toList.length = i.size) (h1 : allOne v.cells.toList = true) {c' : List Value} (hc : spl c q v.cells.toList = some c')
    (h : putK n o.dst (.val undef) e fun e => K e (m.set k ⟨b, .cells c' t' (0, 0)⟩) g) : OOK P n o e m g K := by
  refine OOK.skipU fun a w ha hw => ?_
  have hb := hw.own _ (List.mem_of_getElem? hk) _ rfl
  rw [show (Slot.mk b (.cells c t' (0, 0))).b = b from rfl] at hb
  obtain ⟨l1, l2⟩ := spl_eq _ _ _ _ hc
  have hst := run_storeCells_at (P := P) b q t' v.cells.toList 0 c.toArray w hb (by simpa using l1) (allOne_ok h1)
  refine ⟨w.setRow b c'.toArray, m.set k ⟨b, .cells c' t' (0, 0)⟩, ?_, ?_, Mem.ext_set hk rfl, ?_, h⟩
  · have hs2 : ¬ (v.cells.size ≠ i.size) := by simpa using hsz
    have hst' : (storeCells ⟨b, q, none⟩ v.cells.toList).run P w = .ok () (w.setRow b c'.toArray) := by
      rw [hst, l2]; simp
    simp [execOp, hop, own_addr ha hx hk, ha.va hy, Instr.storeAt, Instr.sureAddr, storeVar, run_size hi, hst']
    simpa using hsz
  · refine hw.write hk rfl _ _ rfl (setRow_heap w b _ _ t' (0, 0) hb) fun x hx => ?_
    simp only [World.setRow, Array.getElem?_modify]
    rw [if_neg (by simpa using fun h => hx h.symm)]
  · refine Fr.write hk rfl _ (fun x hx => ?_) ?_ rfl rfl rfl
    · simp only [World.setRow, Array.getElem?_modify]
      rw [if_neg (by simpa using fun h => hx h.symm)]
    · simp [World.setRow]
end
end Go.SX
