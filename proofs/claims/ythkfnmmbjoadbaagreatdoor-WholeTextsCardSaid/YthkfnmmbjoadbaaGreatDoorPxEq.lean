/- SX, part 10: structs compared; small helpers for the walk's ends. -/
import Derived.Test.YthkfnmmbjoadbaaGreatDoorPxDraw
set_option linter.unusedVariables false
set_option linter.unusedSimpArgs false
namespace Go.SX
section
variable {P : Program} {n : Cfg} {o : Oper} {e : Env} {m : Mem} {g : GH}

def eqC (P : Program) (t : TypeId) (a b : Value) : Option Bool :=
  match P.underlying t, a, b with
  | some (.int _), .int k x, .int k' y => match sameK k k' with
    | true => some (x == y)
    | false => none
  | some .bool, .bool x, .bool y => some (x == y)
  | some .string, .string x, .string y => some (x.toList == y.toList)
  | _, _, _ => none
theorem eqC_ok {t a b c} (h : eqC P t a b = some c) (d : Nat) (w : World) : (Op.equalIn (d + 1) t a b).run P w = .ok c w := by
  unfold eqC at h
  split at h
  · rename_i k' k x k2 y hu
    split at h
    · rename_i hk
      obtain rfl := sameK_eq hk
      simp only [Option.some.injEq] at h; subst h
      exact run_equalIn_int w d t k k' x y hu
    · cases h
  · rename_i x y hu
    simp only [Option.some.injEq] at h; subst h
    exact run_equalIn_bool w d t x y hu
  · rename_i x y hu
    simp only [Option.some.injEq] at h; subst h
    exact run_equalIn_string w d t x y hu
  · cases h
def eqL (P : Program) : List Field → List Value → List Value → Option Bool
  | [], _, _ => some true
  | f :: r, xs, ys => match aggN P f.type, nthV xs f.offset, nthV ys f.offset with
    | some none, some a, some b => match eqC P f.type a b, eqL P r xs ys with
      | some c, some d => some (c && d)
      | _, _ => none
    | _, _, _ => none
def noBlank (fs : Array Field) : Bool := fs.toList.all fun f => !(f.name == "_")
theorem eqL_ok {xs ys : Array Value} (d : Nat) (w : World) : ∀ {fs : List Field} {c : Bool}, (fs.all fun f => !(f.name == "_")) = true → eqL P fs xs.toList ys.toList = some c → (Op.eqFields (d + 1) xs ys fs).run P w = .ok c w
  | [], c, _, h => by simp [eqL] at h; subst h; simp [Op.eqFields]
  | f :: r, c, hb, h => by
    simp only [List.all_cons, Bool.and_eq_true] at hb
    simp only [eqL] at h
    split at h
    · rename_i a b ha h1 h2
      split at h
      · rename_i c1 c2 hc1 hc2
        simp only [Option.some.injEq] at h; subst h
        rw [nthV_eq] at h1 h2
        have h1' : xs[f.offset]? = some a := by simpa using h1
        have h2' : ys[f.offset]? = some b := by simpa using h2
        have hne : f.name ≠ "_" := by simpa using hb.1
        have ih := eqL_ok d w (fs := r) hb.2 hc2
        have hp1 : (part f.type xs f.offset).run P w = .ok a w := by simp [part, aggN_none ha, h1']
        have hp2 : (part f.type ys f.offset).run P w = .ok b w := by simp [part, aggN_none ha, h2']
        simp only [Op.eqFields, hne, ne_eq, not_false_eq_true, if_true, Sem.run_bind, hp1, hp2, Result.andThen_ok, eqC_ok hc1 d w]
        cases c1 <;> simp [ih]
      · cases h
    · cases h
theorem YN.eqAgg {K : SV → Prop} {t u : TypeId} {x y : Operand} {xs ys : Array Value} {fs : Array Field} {b : Bool} (hop : o.op = .binOp .eql t x y u) (hx : e.va m x = some (.agg xs)) (hy : e.va m y = some (.agg ys))
    (hu : P.underlying t = some (.struct fs)) (hs : P.stoodInHeld t = false) (hg : P.eqGuardType P.depth t = false) (hb : noBlank fs = true) (he : eqL P fs.toList xs.toList ys.toList = some b) (k : K (.val (.bool b))) : YN P n o e m g K :=
  .mk' (.val (.bool b)) (fun a ha => ⟨_, rfl, fun w hw => by
    have hf : P.fieldsOf t = fs := by simp [Program.fieldsOf, hu]
    have h1 := run_equalIn_agg (P := P) w 9999 t xs ys (by rw [hf]; exact hu) hs
    rw [hf] at h1
    have h2 := eqL_ok (P := P) (xs := xs) (ys := ys) 9998 w (fs := fs.toList) hb he
    simp only [execOp, hop, ha.va hx, ha.va hy, Sem.run_bind, run_eqGuard_agg w .eql t x y xs ys hg, Result.andThen_ok, run_eql_struct, h1, h2, Sem.run_pure]⟩) k
theorem YN.neqAgg {K : SV → Prop} {t u : TypeId} {x y : Operand} {xs ys : Array Value} {fs : Array Field} {b : Bool} (hop : o.op = .binOp .neq t x y u) (hx : e.va m x = some (.agg xs)) (hy : e.va m y = some (.agg ys))
    (hu : P.underlying t = some (.struct fs)) (hs : P.stoodInHeld t = false) (hg : P.eqGuardType P.depth t = false) (hb : noBlank fs = true) (he : eqL P fs.toList xs.toList ys.toList = some b) (k : K (.val (.bool (!b)))) : YN P n o e m g K :=
  .mk' (.val (.bool (!b))) (fun a ha => ⟨_, rfl, fun w hw => by
    have hf : P.fieldsOf t = fs := by simp [Program.fieldsOf, hu]
    have h1 := run_equalIn_agg (P := P) w 9999 t xs ys (by rw [hf]; exact hu) hs
    rw [hf] at h1
    have h2 := eqL_ok (P := P) (xs := xs) (ys := ys) 9998 w (fs := fs.toList) hb he
    simp only [execOp, hop, ha.va hx, ha.va hy, Sem.run_bind, run_eqGuard_agg w .neq t x y xs ys hg, Result.andThen_ok, run_neq_struct, h1, h2, Sem.run_pure]⟩) k
theorem OOK.ynK {K : Env → Mem → GH → Prop} (h : YN P n o e m g fun s => putK n o.dst s e fun e => K e m g) : OOK P n o e m g K := OOK.yn h

/-- A call that is handed all that is owned. -/
theorem OOK.callAll {K : Env → Mem → GH → Prop} {fx : Operand} {xs : Array Operand} {ts : Array TypeId} {f : FuncId} {first cap : Array Value} {vs args : List Value} {R : Value → GH → Mem → Prop}
    (hop : o.op = .call ⟨.value fx, xs, ts⟩) (hf : e.va m fx = some (.func (.func f) first cap)) (hxs : mapV (e.va m) xs.toList = some vs) (hok : calleeOk P f = true)
    (hargs : first.toList ++ (vs ++ cap.toList) = args) (h : Tri P f args g m R)
    (hk : ∀ v g' m', g.le g' → R v g' m' → putK n o.dst (.val v) e fun e => K e m' g') : OOK P n o e m g K := by
  refine ⟨fun a w ha hw next Q hnx hX => ?_⟩
  have hrun := run_call (P := P) (ρ := a.eval) hop (ha.va hf) (mapV_ok (fun x v hx => ha.va hx) _ _ hxs) hok hargs w
  unfold Oper.wp
  rw [hrun]
  refine (h w hw).mono ?_
  rintro en w' ⟨v, g', m', rfl, hR, he, hw', hfr⟩
  obtain ⟨e', h5, h6⟩ := putK_ok (hk v g' m' hfr.le hR) (ha.ext he) (v := v) rfl
  exact hnx _ _ e' _ g' h5 hw' hfr h6
/-- 's[j:]' of a slice of one's own. -/
theorem Src.cut {i b n c c2 j size : Nat} {cs ys : List Value} {t : TypeId} {fr : Nat × Nat} (hm : m[i]? = some ⟨b, .cells cs t fr⟩) (hn : n ≤ c) (hy : ys.length = (n - j) * size) (h : ∀ q v, ys[q]? = some v → cs[j * size + q]? = some v) :
    Src P g m (.slice (if c = j then some ⟨b, 0, none⟩ else Option.map (addN · (j * size)) (some ⟨b, 0, none⟩)) (n - j) c2) (n - j) size ys := by
  split
  · have h0 : n - j = 0 := by omega
    rw [h0] at hy ⊢
    have : ys = [] := List.eq_nil_of_length_eq_zero (by simpa using hy)
    subst this
    exact Src.nil'
  · exact Src.own (q := 0 + j * size) hm hy (fun q v hq => by rw [Nat.zero_add]; exact h q v hq)
/-! ### weaker knowledge, entry by entry -/
def subE (e : Env) (m M : Mem) : Env → Prop
  | [] => True
  | (t, x) :: r => (match x.den M, (e.get t).bind (SV.den m) with
    | some v, some u => u = v
    | _, _ => False) ∧ subE e m M r
omit n o g in
theorem Sub.of {e : Env} {m : Mem} {E : Env} {M : Mem} {is : List Nat} (h1 : is.Nodup) (h2 : pickM m is = some M) (h3 : subE e m M E) : SX.Sub e m E M is := by
  refine ⟨h1, pickM_ok h2, ?_⟩
  clear h1 h2
  induction E with
  | nil => intro t x h; simp [Env.get] at h
  | cons p r ih =>
    obtain ⟨k, y⟩ := p
    intro t x h
    simp only [Env.get_cons] at h
    by_cases ht : k = t
    · subst ht
      simp only [if_true, Option.some.injEq] at h
      subst h
      have := h3.1
      split at this
      · rename_i v u hv hu
        exact ⟨v, hv, by rw [hu, this]⟩
      · exact this.elim
    · simp only [ht, if_false] at h
      exact ih h3.2 t x h
theorem int_eq {k : IntKind} {a b : Int} (h : a = b) : Value.int k a = Value.int k b := by rw [h]
/-! ### numbers -/
theorem i64_in {x : Int} (h1 : -9223372036854775808 ≤ x) (h2 : x ≤ 9223372036854775807) : IntKind.i64.wrap x = x := by
  have := IntWalk.i64_in x (by first | exact ⟨h1, h2⟩ | exact h1)
  exact this
theorem bytes_eq {a b : ByteArray} : (a.toList == b.toList) = decide (a = b) := by
  rw [ByteArray.toList_eq, ByteArray.toList_eq]
  by_cases h : a = b
  · subst h; simp
  · have : ¬ (a.data = b.data) := fun e => h (by
      cases a; cases b; simp only [ByteArray.mk.injEq]; exact e)
    simp [h, this]
end
end Go.SX
