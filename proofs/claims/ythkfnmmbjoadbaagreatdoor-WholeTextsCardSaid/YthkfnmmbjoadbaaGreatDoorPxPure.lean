/- SX, part 3: the pure operations are what the model runs. -/
import Derived.Test.YthkfnmmbjoadbaaGreatDoorPxOps
set_option linter.unusedVariables false
set_option linter.unusedSimpArgs false
namespace Go.SX
section
variable {P : Program}

theorem run_info {t : TypeId} {i : TypeInfo} (h : P.info? t = some i) (w : World) : (typeInfo t).run P w = .ok i w := by simp [typeInfo, h]
theorem run_size {t : TypeId} {i : TypeInfo} (h : P.info? t = some i) (w : World) : (sizeOf t).run P w = .ok i.size w := by simp [sizeOf, typeInfo, h]
theorem aggN_none {t : TypeId} (h : aggN P t = some none) (w : World) : (isAgg t).run P w = .ok false w := by
  unfold aggN at h
  split at h
  · split at h <;> simp at h
  · split at h <;> simp at h
  · rename_i d h1 h2 hu
    unfold isAgg
    simp only [Sem.run_bind, run_underlying hu, Result.andThen_ok]
    rfl
  · simp at h
theorem aggN_some {t : TypeId} {n : Nat} (h : aggN P t = some (some n)) (w : World) : (isAgg t).run P w = .ok true w ∧ (sizeOf t).run P w = .ok n w := by
  unfold aggN at h
  split at h
  · rename_i fs hu
    split at h
    · rename_i i hi
      simp only [Option.some.injEq] at h; subst h
      exact ⟨by unfold isAgg; simp [run_underlying hu], run_size hi w⟩
    · simp at h
  · rename_i a e hu
    split at h
    · rename_i i hi
      simp only [Option.some.injEq] at h; subst h
      exact ⟨by unfold isAgg; simp [run_underlying hu], run_size hi w⟩
    · simp at h
  · simp at h
  · simp at h

def Yl (P : Program) (s : Sem Next) (v : Value) : Prop := ∀ w, s.run P w = .ok (.value v) w
theorem yl {s : Sem Value} {v : Value} (h : Is s P v) : Yl P (do pure (.value (← s))) v := fun w => by
  simp only [Sem.run_bind, h w, Result.andThen_ok, Sem.run_pure]
def GoodV (P : Program) (s : Sem Value) (r : PR) : Prop := match r with
  | .val v => Is s P v
  | .need c v => c → Is s P v
  | .no => True
def Good (P : Program) (s : Sem Next) (r : PR) : Prop := match r with
  | .val v => Yl P s v
  | .need c v => c → Yl P s v
  | .no => True

section
variable {ρ : Operand → Option Value} {ρ' : Operand → Value} (hρ : ∀ x v, ρ x = some v → ρ' x = v) (hcst : ∀ v, ρ' (.const v) = v)
include hρ

theorem pv_nilCheck {o : Oper} {x : Operand} (hop : o.op = .nilCheck x) : Good P (execOp ρ' o) (pv P ρ (.nilCheck x)) := by
  simp only [pv]
  split
  · rename_i a h; intro w; simp [execOp, hop, hρ _ _ h]
  · rename_i f a b h; intro w; simp [execOp, hop, hρ _ _ h]
  · trivial
theorem pv_fieldAddr {o : Oper} {s : TypeId} {x : Operand} {f : Nat} (hop : o.op = .fieldAddr s x f) : Good P (execOp ρ' o) (pv P ρ (.fieldAddr s x f)) := by
  simp only [pv]
  split
  · rename_i a fs h hu
    split
    · rename_i fd hf
      split
      · rename_i i hi
        split
        · rename_i hz
          have hz' : i.size ≠ 0 := fun e => by rw [e] at hz; simp at hz
          have he : execOp ρ' o = (do pure (.value (← Instr.fieldAt s (ρ' x) f))) := by simp [execOp, hop]
          show Yl _ _ _
          rw [he]
          refine yl fun w => ?_
          have hf' : fs[f]? = some fd := by simpa using hf
          simp [Instr.fieldAt, run_underlying hu, hf', hρ _ _ h, Instr.sureAddr, fieldPlace, run_size hi, hz', addN_eq]
        · trivial
      · trivial
    · trivial
  · trivial
theorem pv_field {o : Oper} {s : TypeId} {x : Operand} {f : Nat} (hop : o.op = .field s x f) : Good P (execOp ρ' o) (pv P ρ (.field s x f)) := by
  simp only [pv]
  split
  · rename_i cs fs h hu
    split
    · rename_i fd hf
      split
      · rename_i ha
        split
        · rename_i v hv
          have he : execOp ρ' o = (do pure (.value (← Instr.field s (ρ' x) f))) := by simp [execOp, hop]
          show Yl _ _ _
          rw [he]
          refine yl fun w => ?_
          have hf' : fs[f]? = some fd := by simpa using hf
          rw [nthV_eq] at hv
          have hv' : cs[fd.offset]? = some v := by simpa using hv
          simp [Instr.field, run_underlying hu, hf', hρ _ _ h, asAgg, part, aggN_none ha, hv']
        · trivial
      · trivial
    · trivial
  · trivial
theorem pv_indexAddr {o : Oper} {t : TypeId} {x i : Operand} (hop : o.op = .indexAddr t x i) : Good P (execOp ρ' o) (pv P ρ (.indexAddr t x i)) := by
  have he : execOp ρ' o = (do pure (.value (← Instr.indexAt t (ρ' x) (ρ' i)))) := by simp [execOp, hop]
  simp only [pv]
  split
  · rename_i a n c k j e hx hi hu
    split
    · rename_i inf hinf
      rw [litN_eq]
      intro hc
      rw [he]
      refine yl fun w => ?_
      simp [Instr.indexAt, hρ _ _ hx, hρ _ _ hi, asIntOf, run_underlying hu, run_size hinf, hc, addN_eq]
    · trivial
  · rename_i a k j n e hx hi hu
    split
    · rename_i inf hinf
      rw [litN_eq]
      intro hc
      rw [he]
      refine yl fun w => ?_
      simp [Instr.indexAt, hρ _ _ hx, hρ _ _ hi, asIntOf, run_underlying hu, run_size hinf, hc, Instr.sureAddr, addN_eq]
    · trivial
  · trivial
theorem pv_index {o : Oper} {t : TypeId} {x i : Operand} (hop : o.op = .index t x i) : Good P (execOp ρ' o) (pv P ρ (.index t x i)) := by
  have he : execOp ρ' o = (do pure (.value (← Instr.index t (ρ' x) (ρ' i)))) := by simp [execOp, hop]
  simp only [pv]
  split
  · rename_i s k j hx hi hu
    intro hc
    rw [he]
    refine yl fun w => ?_
    have hlt : j.toNat < s.size := by omega
    have hg : s[j.toNat]? = some s[j.toNat] := getElem?_pos s j.toNat hlt
    have hb : byteAt s j.toNat = s[j.toNat].toNat := by
      unfold byteAt
      have hlt' : j.toNat < s.data.size := hlt
      rw [Array.getElem?_eq_getElem hlt']
      rfl
    simp only [Instr.index, hρ _ _ hx, hρ _ _ hi, asIntOf, Sem.run_bind, Sem.run_pure, Result.andThen_ok, run_underlying hu, hc.1, if_true, hg, hb]
  · trivial
theorem optV_ok {x : Option Operand} {v : Option Value} (h : optV ρ x = some v) : x.map ρ' = v := by
  cases x with
  | none => simp [optV] at h; simp [h]
  | some x =>
    simp only [optV] at h
    split at h
    · rename_i u hu
      simp only [Option.some.injEq] at h; subst h
      simp [hρ _ _ hu]
    · cases h
theorem pv_convert {o : Oper} {s d : TypeId} {x : Operand} (hop : o.op = .convert s d x) : Good P (execOp ρ' o) (pv P ρ (.convert s d x)) := by
  have he : execOp ρ' o = (do pure (.value (← Go.convert s d (ρ' x)))) := by simp [execOp, hop]
  simp only [pv]
  split
  · rename_i k' n du k hx hs hd
    show Yl _ _ _
    rw [he]
    refine yl fun w => ?_
    unfold Go.convert
    simp only [Sem.run_bind, run_underlying hs, run_underlying hd, Result.andThen_ok, hρ _ _ hx]
    cases du <;> simp [Conv.intToInt]
  · rename_i b du hx hs hd
    show Yl _ _ _
    rw [he]
    refine yl fun w => ?_
    unfold Go.convert
    simp only [Sem.run_bind, run_underlying hs, run_underlying hd, Result.andThen_ok, hρ _ _ hx]
    cases du <;> simp
  · trivial
theorem pv_unOp {o : Oper} {op : UnOp} {t : TypeId} {x : Operand} (hop : o.op = .unOp op t x) : Good P (execOp ρ' o) (pv P ρ (.unOp op t x)) := by
  have he : execOp ρ' o = (do pure (.value (← Op.unary op (ρ' x)))) := by simp [execOp, hop]
  simp only [pv]
  split
  · rename_i b hx
    show Yl _ _ _
    rw [he]
    exact yl fun w => by simp [Op.unary, hρ _ _ hx]
  · rename_i k n hx
    show Yl _ _ _
    rw [he]
    exact yl fun w => by simp [Op.unary, hρ _ _ hx, Op.intArith]
  · trivial
include hcst in
theorem pv_binOp {o : Oper} {op : BinOp} {t u : TypeId} {x y : Operand} (hop : o.op = .binOp op t x y u) : Good P (execOp ρ' o) (pv P ρ (.binOp op t x y u)) := by
  have he : execOp ρ' o = (do pure (.value (← (do eqGuard op t x y (ρ' x) (ρ' y); Go.binOp op t (ρ' x) (ρ' y))))) := by simp [execOp, hop]
  simp only [pv]
  split
  · rename_i a b hx hy
    have h1 := hρ _ _ hx
    have h2 := hρ _ _ hy
    rw [he, h1, h2]
    cases hr : binV P op t a b with
    | no => trivial
    | val v => exact yl (binV_ok.2 hr)
    | need c v =>
      simp only
      cases hz : easy y op with
      | false => exact fun hc => yl (binV_ok.1 c hr hc)
      | true =>
        refine yl (binV_ok.1 c hr ?_)
        unfold easy at hz
        split at hz
        · rename_i k b'
          have : b = .int k b' := by rw [← h2]; exact hcst _
          subst this
          exact easy_ok (k := k) (b := b') (by simpa [easy] using hz) hr
        · cases hz
  · trivial
theorem pv_makeFunc {o : Oper} {fn : Fn} {first cap : Array Operand} (hop : o.op = .makeFunc fn first cap) : Good P (execOp ρ' o) (pv P ρ (.makeFunc fn first cap)) := by
  have he : execOp ρ' o = (do pure (.value (← Instr.makeFunc fn (first.map ρ') (cap.map ρ')))) := by simp [execOp, hop]
  simp only [pv]
  split
  · rename_i a b ha hb
    show Yl _ _ _
    rw [he]
    refine yl fun w => ?_
    have h1 := mapV_ok hρ _ _ ha
    have h2 := mapV_ok hρ _ _ hb
    have h1' : first.map ρ' = a.toArray := by apply Array.toList_inj.1; simp [h1]
    have h2' : cap.map ρ' = b.toArray := by apply Array.toList_inj.1; simp [h2]
    simp [Instr.makeFunc, h1', h2']
  · trivial
theorem pv_extract {o : Oper} {x : Operand} {i : Nat} (hop : o.op = .extract x i) : Good P (execOp ρ' o) (pv P ρ (.extract x i)) := by
  have he : execOp ρ' o = (do pure (.value (← Instr.extract (ρ' x) i))) := by simp [execOp, hop]
  simp only [pv]
  split
  · rename_i vs hx
    split
    · rename_i v hv
      show Yl _ _ _
      rw [he]
      rw [nthV_eq] at hv
      have hv' : vs[i]? = some v := by simpa using hv
      exact yl fun w => by simp [Instr.extract, hρ _ _ hx, hv']
    · trivial
  · trivial
theorem pv_makeInterface {o : Oper} {x : Operand} {t : TypeId} (hop : o.op = .makeInterface t x) : Good P (execOp ρ' o) (pv P ρ (.makeInterface t x)) := by
  have he : execOp ρ' o = (do pure (.value (← Instr.makeInterface t (ρ' x)))) := by simp [execOp, hop]
  simp only [pv]
  split
  · trivial
  · rename_i v d hd hx hu
    show Yl _ _ _
    rw [he]
    refine yl fun w => ?_
    unfold Instr.makeInterface
    simp only [Sem.run_bind, run_underlying hu, Result.andThen_ok, hρ _ _ hx]
    cases d <;> first | rfl | (exfalso; exact hd _ _ rfl hu)
  · trivial
omit hρ in
theorem sliceV_ok {t : TypeId} {x : Value} {lo hi mx : Option Value} : GoodV P (Instr.sliceAt t x lo hi mx) (sliceV P t x lo hi mx) := by
  unfold sliceV
  split
  · rename_i s k h hu
    intro hc w
    simp [Instr.sliceAt, run_underlying hu, Instr.slice, Instr.sliceBounds, Instr.sliceBound, asIntOf, hc]
  · rename_i s k l hu
    intro hc w
    simp [Instr.sliceAt, run_underlying hu, Instr.slice, Instr.sliceBounds, Instr.sliceBound, asIntOf, hc]
  · rename_i s k l k' h hu
    intro hc w
    obtain ⟨⟨h1, h2⟩, h3, h4⟩ := hc
    simp [Instr.sliceAt, run_underlying hu, Instr.slice, Instr.sliceBounds, Instr.sliceBound, asIntOf, h1, h2, h3, h4, Int.max_eq_left h1]
  · rename_i s hu
    intro w
    simp [Instr.sliceAt, run_underlying hu, Instr.slice, Instr.sliceBounds]
  · rename_i e a n c hu
    split
    · trivial
    · rename_i i hi
      rw [litN_eq]
      split
      · intro w
        simp [Instr.sliceAt, run_underlying hu, Instr.slice, Instr.sliceBounds, run_size hi, addN_eq]
      · rename_i k h
        intro hc w
        simp [Instr.sliceAt, run_underlying hu, Instr.slice, Instr.sliceBounds, Instr.sliceBound, asIntOf, hc, run_size hi, addN_eq]
      · rename_i k l
        intro hc w
        simp [Instr.sliceAt, run_underlying hu, Instr.slice, Instr.sliceBounds, Instr.sliceBound, asIntOf, hc, run_size hi, addN_eq]
      · rename_i k l k' h
        intro hc w
        obtain ⟨⟨h1, h2⟩, h3, h4⟩ := hc
        have h4' : l ≤ h := by omega
        simp [Instr.sliceAt, run_underlying hu, Instr.slice, Instr.sliceBounds, Instr.sliceBound, asIntOf, h1, h2, h3, h4', run_size hi, Int.max_eq_left h1, addN_eq]
      · rename_i k l k' h k'' y
        intro hc w
        obtain ⟨⟨h1, h2⟩, ⟨h3, h4⟩, h5, h6⟩ := hc
        have h4' : h ≤ y := by omega
        have h6' : l ≤ h := by omega
        simp [Instr.sliceAt, run_underlying hu, Instr.slice, Instr.sliceBounds, Instr.sliceBound, asIntOf, h1, h2, h3, h4', h5, h6', run_size hi, Int.max_eq_left h1, Int.max_eq_left h3, addN_eq]
      · trivial
  · trivial
theorem pv_slice {o : Oper} {t : TypeId} {x : Operand} {lo hi mx : Option Operand} (hop : o.op = .slice t x lo hi mx) : Good P (execOp ρ' o) (pv P ρ (.slice t x lo hi mx)) := by
  have he : execOp ρ' o = (do pure (.value (← Instr.sliceAt t (ρ' x) (lo.map ρ') (hi.map ρ') (mx.map ρ')))) := by simp [execOp, hop]
  simp only [pv]
  split
  · rename_i v l h m hx hl hh hm
    rw [he, hρ _ _ hx, optV_ok hρ hl, optV_ok hρ hh, optV_ok hρ hm]
    have := sliceV_ok (P := P) (t := t) (x := v) (lo := l) (hi := h) (mx := m)
    cases hr : sliceV P t v l h m with
    | no => trivial
    | val v => rw [hr] at this; exact yl this
    | need c v => rw [hr] at this; exact fun hc => yl (this hc)
  · trivial

/-! building a struct, lengths -/
omit hρ in
theorem foldl_spl (off : Nat) : ∀ (vs : List Value) (i : Nat) (c : Array Value) (l : List Value), spl c.toList (off + i) vs = some l →
    (vs.zipIdx i).foldl (fun cs (x : Value × Nat) => cs.setIfInBounds (off + x.2) x.1) c = l.toArray
  | [], i, c, l, h => by
    obtain ⟨_, h2⟩ := spl_eq _ _ _ _ h
    simp at h2
    subst h2
    simp
  | v :: vs, i, c, l, h => by
    obtain ⟨h1, h2⟩ := spl_eq _ _ _ _ h
    have h3 : spl (c.setIfInBounds (off + i) v).toList (off + (i + 1)) vs = some l := by
      have : ∀ (c : List Value) (q : Nat) (v : Value) (vs l : List Value), spl c q (v :: vs) = some l → spl (c.set q v) (q + 1) vs = some l := by
        intro c
        induction c with
        | nil => intro q v vs l h; cases q <;> simp [spl] at h
        | cons x r ih =>
          intro q v vs l h
          cases q with
          | zero => simpa [spl] using h
          | succ q =>
            simp only [spl] at h
            split at h
            · rename_i l' h'
              simp only [Option.some.injEq] at h; subst h
              simp [spl, ih q v vs l' h']
            · cases h
      have := this c.toList (off + i) v vs l h
      simpa [Array.toList_setIfInBounds, Nat.add_assoc] using this
    simp only [List.zipIdx_cons, List.foldl_cons]
    exact foldl_spl off vs (i + 1) _ l h3
omit hρ in
theorem fillL_ok {fs : List (Nat × Nat)} : ∀ (ps : List (Nat × Value)) (c : Array Value) (l : List Value), fillL fs c.toList ps = some l → Instr.fill (fs.toArray[·]?) c ps = some l.toArray
  | [], c, l, h => by simp [fillL] at h; subst h; simp [Instr.fill]
  | (i, v) :: r, c, l, h => by
    simp only [fillL] at h
    split at h
    · cases h
    · rename_i off size hf
      split at h
      · cases h
      · rename_i hz
        have hz' : v.cells.toList.length = size := Nat.eq_of_beq_eq_true hz
        split at h
        · rename_i c' hc
          obtain ⟨h1, _⟩ := spl_eq _ _ _ _ hc
          have hfo := foldl_spl off v.cells.toList 0 c c' hc
          have ih := fillL_ok r c'.toArray l (by simpa using h)
          have hf' : fs.toArray[i]? = some (off, size) := by simpa using hf
          unfold Instr.fill
          simp only [hf']
          have hsz : v.cells.size = size := by simpa using hz'
          have : ¬ (v.cells.size ≠ size ∨ off + v.cells.size > c.size) := by
            simp at h1
            simp [hsz] at h1 ⊢; omega
          simp only [Bool.or_eq_true, decide_eq_true_eq, this, if_false]
          rw [← ih]
          congr 1
          rw [← hfo]
          rw [← Array.foldl_toList]
          simp [Array.toList_zipIdx]
        · cases h
omit hρ in
theorem placesOf_ok (w : World) : ∀ (fs : List Field) (l : List (Nat × Nat)), placesOf P fs = some l → (fs.mapM fun f => (do pure (f.offset, ← sizeOf f.type) : Sem (Nat × Nat))).run P w = .ok l w
  | [], l, h => by simp [placesOf] at h; subst h; simp
  | f :: r, l, h => by
    simp only [placesOf] at h
    split at h
    · rename_i i l' hi hl
      simp only [Option.some.injEq] at h; subst h
      have ih := placesOf_ok w r l' hl
      simp only [List.mapM_cons, Sem.run_bind, run_size hi, Result.andThen_ok, Sem.run_pure, ih]
    · cases h
omit hρ in
theorem zeroL_ok {t : TypeId} {z : List Value} (h : zeroL P t = some z) (w : World) : ∃ v, (zeroValue t).run P w = .ok v w ∧ v.cells.toList = z := by
  unfold zeroL at h
  split at h
  · rename_i i hi
    split at h
    · rename_i v hv
      simp only [Option.some.injEq] at h; subst h
      exact ⟨v, by simp [zeroValue, run_info hi, hv], rfl⟩
    · cases h
  · cases h
theorem partsV_ok : ∀ (ps : List (Nat × Operand)) (l : List (Nat × Value)), partsV ρ ps = some l → ps.map (fun (i, x) => (i, ρ' x)) = l
  | [], l, h => by simp [partsV] at h; subst h; rfl
  | (i, x) :: r, l, h => by
    simp only [partsV] at h
    split at h
    · rename_i v l' h1 h2
      simp only [Option.some.injEq] at h; subst h
      simp [hρ _ _ h1]
      simpa using partsV_ok r l' h2
    · cases h
theorem pv_build {o : Oper} {t : TypeId} {ps : Array (Nat × Operand)} (hop : o.op = .build t ps) : Good P (execOp ρ' o) (pv P ρ (.build t ps)) := by
  have he : execOp ρ' o = (do pure (.value (← Instr.build t (ps.map fun (i, x) => (i, ρ' x))))) := by simp [execOp, hop]
  simp only [pv, buildV]
  split
  · rename_i z fs vs hz hu hv
    split
    · rename_i pl hpl
      split
      · rename_i c hc
        show Yl _ _ _
        rw [he]
        refine yl fun w => ?_
        obtain ⟨v, hz1, hz2⟩ := zeroL_ok hz w
        have hp := placesOf_ok w _ _ hpl
        have hps : (ps.map fun (i, x) => (i, ρ' x)).toList = vs := by
          have := partsV_ok hρ _ _ hv
          simpa using this
        have hfill := fillL_ok (fs := pl) vs v.cells c (by rw [hz2]; exact hc)
        unfold Instr.build
        simp only [Sem.run_bind, hz1, Result.andThen_ok, run_underlying hu]
        rw [← Array.toArray_toList (xs := fs)]
        simp only [List.mapM_toArray, Sem.run_map, hp, Result.andThen_ok, hps, hfill, Sem.run_pure]
      · trivial
    · trivial
  · trivial
theorem pv_call {o : Oper} {c : Call} (hop : o.op = .call c) : Good P (execOp ρ' o) (pv P ρ (.call c)) := by
  obtain ⟨callee, args, ats⟩ := c
  have one : ∀ {x : Operand} {b : Builtin} {u : Value} {t : Array TypeId}, callee = .builtin b → args.toList = [x] → ats = t → Is (Builtin.len_ t o.type #[ρ' x]) P u → b = .len → Yl P (execOp ρ' o) u := by
    intro x b u t h1 h2 h3 h4 h5 w
    have : args = #[x] := by apply Array.toList_inj.1; simp [h2]
    subst h1 h3 h5 this
    simp [execOp, hop, resolve, invoke, builtin, h4 w]
  cases callee with
  | value f => simp only [pv]; trivial
  | invoke r m => simp only [pv]; trivial
  | builtin b =>
    cases b
    case len =>
      simp only [pv]
      split
      · rename_i x t hx ht
        have ha : args = #[x] := by apply Array.toList_inj.1; simp [hx]
        have hs : ats = #[t] := by apply Array.toList_inj.1; simp [ht]
        subst ha hs
        split
        · rename_i s h1 h2
          intro w; simp [execOp, hop, resolve, invoke, builtin, Builtin.len_, run_underlying h2, hρ _ _ h1, goInt]
        · rename_i a n c e h1 h2
          intro w; simp [execOp, hop, resolve, invoke, builtin, Builtin.len_, run_underlying h2, hρ _ _ h1, goInt]
        · rename_i a e h1 h2
          intro w; simp [execOp, hop, resolve, invoke, builtin, Builtin.len_, run_underlying h2, hρ _ _ h1, goInt]
        · trivial
      · trivial
    case cap =>
      simp only [pv]
      split
      · rename_i x t hx ht
        have ha : args = #[x] := by apply Array.toList_inj.1; simp [hx]
        have hs : ats = #[t] := by apply Array.toList_inj.1; simp [ht]
        subst ha hs
        split
        · rename_i s c n e h1 h2
          intro w; simp [execOp, hop, resolve, invoke, builtin, Builtin.cap_, run_underlying h2, hρ _ _ h1, goInt]
        · trivial
      · trivial
    case min =>
      simp only [pv]
      split
      · rename_i x y hx
        have ha : args = #[x, y] := by apply Array.toList_inj.1; simp [hx]
        subst ha
        split
        · rename_i k a k' b h1 h2
          split
          · rename_i hk
            obtain rfl := sameK_eq hk
            intro w; simp [execOp, hop, resolve, invoke, builtin, Builtin.min_, Builtin.min2, hρ _ _ h1, hρ _ _ h2, minI]
          · trivial
        · trivial
      · trivial
    case max =>
      simp only [pv]
      split
      · rename_i x y hx
        have ha : args = #[x, y] := by apply Array.toList_inj.1; simp [hx]
        subst ha
        split
        · rename_i k a k' b h1 h2
          split
          · rename_i hk
            obtain rfl := sameK_eq hk
            intro w; simp [execOp, hop, resolve, invoke, builtin, Builtin.max_, Builtin.max2, hρ _ _ h1, hρ _ _ h2, maxI]
          · trivial
        · trivial
      · trivial
    all_goals (simp only [pv]; trivial)
include hcst in
theorem pv_ok {o : Oper} : Good P (execOp ρ' o) (pv P ρ o.op) := by
  cases hop : o.op
  case nilCheck => exact pv_nilCheck hρ hop
  case fieldAddr => exact pv_fieldAddr hρ hop
  case field => exact pv_field hρ hop
  case indexAddr => exact pv_indexAddr hρ hop
  case index => exact pv_index hρ hop
  case slice => exact pv_slice hρ hop
  case convert => exact pv_convert hρ hop
  case unOp => exact pv_unOp hρ hop
  case binOp => exact pv_binOp hρ hcst hop
  case build => exact pv_build hρ hop
  case makeFunc => exact pv_makeFunc hρ hop
  case extract => exact pv_extract hρ hop
  case makeInterface => exact pv_makeInterface hρ hop
  case call => exact pv_call hρ hop
  all_goals trivial
end
end
end Go.SX
