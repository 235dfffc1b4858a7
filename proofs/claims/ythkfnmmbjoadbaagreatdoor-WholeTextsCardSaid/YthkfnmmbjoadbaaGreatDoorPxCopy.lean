/- SX: the builtin copy into an owned block, and a call of a function that has no body but an entry in the model. -/
import Derived.Test.YthkfnmmbjoadbaaGreatDoorPxRow
import Derived.Laws.Externs
import Derived.Lib.Overlaps
set_option linter.unusedVariables false
set_option linter.unusedSimpArgs false
namespace Go.SX
open Go
section
variable {P : Program} {n : Cfg} {o : Oper} {e : Env} {m : Mem} {g : GH}

/-- A source of a copy: its length, and the cells that go over. -/
def SrcN (P : Program) (g : GH) (m : Mem) (x : Value) (k size N : Nat) (ys : List Value) : Prop :=
  ∀ w, Has w g m → (Builtin.lenOf x).run P w = .ok k w ∧ (Builtin.firstCells size N x).run P w = .ok ys.toArray w
theorem SrcN.own {i b q k c size N : Nat} {cs ys : List Value} {t : TypeId} {fr : Nat × Nat} (hm : m[i]? = some ⟨b, .cells cs t fr⟩) (hy : ys.length = N * size) (h : ∀ j v, ys[j]? = some v → cs[q + j]? = some v) :
    SrcN P g m (.slice (some ⟨b, q, none⟩) k c) k size N ys := fun w hw => by
  refine ⟨rfl, ?_⟩
  have hb := hw.own _ (List.mem_of_getElem? hm) _ rfl
  rw [show (Slot.mk b (.cells cs t fr)).b = b from rfl] at hb
  simp only [Builtin.firstCells]
  rw [← hy]
  refine run_loadCells_list (P := P) w _ ys fun j v hj => ?_
  rw [add_plain]
  simp only [World.cell?, hb]
  simpa using h j v hj
theorem SrcN.cut {i b q k c N : Nat} {cs ys : List Value} {t : TypeId} {fr : Nat × Nat} {size c' : Nat} (hm : m[i]? = some ⟨b, .cells cs t fr⟩) (hc : k ≤ c) (hy : ys.length = N * size) (h : ∀ j v, ys[j]? = some v → cs[q + j]? = some v) (hN : N ≤ k) :
    SrcN P g m (.slice (if c = 0 then some ⟨b, c', none⟩ else some ⟨b, q, none⟩) k c) k size N ys := by
  by_cases h0 : c = 0
  · subst h0
    obtain rfl : k = 0 := by omega
    obtain rfl : N = 0 := by omega
    obtain rfl : ys = [] := List.eq_nil_of_length_eq_zero (by simpa using hy)
    intro w hw
    exact ⟨rfl, by simp [Builtin.firstCells, loadCells, loadCellsFrom]⟩
  · rw [if_neg h0]
    exact SrcN.own hm hy h

theorem over {a b c ys : List Value} {q : Nat} (ha : a.length = q) (hb : b.length = ys.length) : (a ++ b ++ c).take q ++ ys ++ (a ++ b ++ c).drop (q + ys.length) = a ++ ys ++ c := by
  subst ha
  have h1 : (a ++ b ++ c).take a.length = a := by rw [List.append_assoc]; exact List.take_left' rfl
  have h2 : (a ++ b ++ c).drop (a.length + ys.length) = c := by
    rw [← List.drop_drop, List.append_assoc, List.drop_left' rfl]
    exact List.drop_left' hb
  rw [h1, h2]
theorem OOK.copyOwn {K : Env → Mem → GH → Prop} {t u el : TypeId} {s x : Operand} {inf : TypeInfo} (i : Nat) {b q dn dc k : Nat} {cs ys : List Value} {xv : Value} {t' : TypeId}
    (hop : o.op = .call ⟨.builtin .copy, #[s, x], #[t, u]⟩) (hs : e.va m s = some (.slice (some ⟨b, q, none⟩) dn dc)) (hx : e.va m x = some xv)
    (ht : P.underlying t = some (.slice el)) (hi : P.info? el = some inf) {size : Nat} (hsz : inf.size = size)
    (hm : m[i]? = some ⟨b, .cells cs t' (0, 0)⟩) (hsrc : SrcN P g m xv k size (Nat.min k dn) ys) (h1 : ∀ v ∈ ys, v.oneCell' = true) (hq : q + ys.length ≤ cs.length)
    {cs' : List Value} (hcs : cs.take q ++ ys ++ cs.drop (q + ys.length) = cs')
    (hk : setF m i ⟨b, .cells cs' t' (0, 0)⟩ fun m => putK n o.dst (.val (.int .i64 (Nat.min k dn : Nat))) e fun e => K e m g) : OOK P n o e m g K := by
  subst hsz; subst hcs
  refine ⟨fun a w ha hw next Q hn hX => ?_⟩
  have hb := hw.own _ (List.mem_of_getElem? hm) _ rfl
  rw [show (Slot.mk b (.cells cs t' (0, 0))).b = b from rfl] at hb
  obtain ⟨l1, l2⟩ := hsrc w hw
  have hst := run_storeCells_at (P := P) b q t' ys 0 cs.toArray w hb (by simpa using hq) h1
  have hst' : (storeCells ⟨b, q, none⟩ ys).run P w = .ok () (w.setRow b (cs.take q ++ ys ++ cs.drop (q + ys.length)).toArray) := by
    rw [hst]; simp
  have hrun : (execOp a.eval o).run P w = .ok (.value (.int .i64 (Nat.min k dn : Nat))) (w.setRow b (cs.take q ++ ys ++ cs.drop (q + ys.length)).toArray) := by
    simp only [execOp, hop, resolve, invoke, builtin, List.map_toArray, List.map_cons, List.map_nil, ha.va hs, ha.va hx, Builtin.copy_, List.getElem?_toArray, List.getElem?_cons_zero, List.getElem?_cons_succ, Sem.run_bind, Sem.run_pure, Result.andThen_ok, run_underlying ht, run_size hi, l1, l2, hst']
    rfl
  obtain ⟨e', h5, h6⟩ : ∃ e', Agr (a.put o.dst (.int .i64 (Nat.min k dn : Nat))) n e' (m.set i ⟨b, .cells (cs.take q ++ ys ++ cs.drop (q + ys.length)) t' (0, 0)⟩) ∧ K e' (m.set i ⟨b, .cells (cs.take q ++ ys ++ cs.drop (q + ys.length)) t' (0, 0)⟩) g := by
    have h0 := hk
    unfold setF at h0
    split at h0
    · rename_i l hl
      obtain ⟨rfl, _⟩ := setM_eq _ _ _ _ hl
      exact putK_ok h0 (ha.ext (Mem.ext_set hm rfl)) (v := .int .i64 (Nat.min k dn : Nat)) rfl
    · exact h0.elim
  unfold Oper.wp
  rw [hrun]
  refine hn _ _ e' _ g h5 ?_ ?_ h6
  · refine hw.write hm rfl (.cells _ t' (0, 0)) _ rfl (setRow_heap w b _ _ t' (0, 0) hb) fun x hx => ?_
    simp only [World.setRow, Array.getElem?_modify]
    rw [if_neg (by simpa using fun h => hx h.symm)]
  · refine Fr.write hm rfl (.cells _ t' (0, 0)) (fun x hx => ?_) ?_ rfl rfl rfl
    · simp only [World.setRow, Array.getElem?_modify]
      rw [if_neg (by simpa using fun h => hx h.symm)]
    · simp [World.setRow]

theorem run_append_zeros {t u el : TypeId} {kn : IntKind} {inf : TypeInfo} {z : List Value} {A : Option Addr} {sn sc N : Nat} {old : List Value} {ty : TypeId} {w : World}
    (ht : P.underlying t = some (.slice el)) (hu : P.underlying u = some (.int kn)) (hi : P.info? el = some inf) (hz : zeroL P el = some z) (hb0 : inf.bytes ≠ 0) (hs0 : inf.size ≠ 0)
    (hold : ∀ w', w'.heap = w.heap → (Builtin.firstCells inf.size sn (.slice A sn sc)).run P w' = .ok old.toArray w')
    (hN : 0 < N) (hgrow : sc < sn + N) (hroom : (2 * (sn + N) + 1000) * inf.bytes ≤ 281474976710656) :
    ∃ c' ys r w1, sn + N ≤ c' ∧ ys = (Builtin.zeroCells z.toArray N).toList ∧ r = (Builtin.zeroCells z.toArray (c' - (sn + N))).toList ∧ w1 = { w with drawn := w.drawn + 1 } ∧
      (Builtin.append_ #[t, u] ty #[.slice A sn sc, .int kn N]).run P w = .ok (.slice (some ⟨w.heap.size, 0, none⟩) (sn + N) c') (w1.alloc (.cells (old ++ ys ++ r).toArray el)) := by
  obtain ⟨zv, hz1, hz2⟩ := zeroL_ok hz { w with drawn := w.drawn + 1 }
  refine ⟨Question.cut (.appendCap (sn + N) sc el) (w.tape w.drawn (.appendCap (sn + N) sc el)), _, _, _, by simp [Question.cut], rfl, rfl, rfl, ?_⟩
  have hn1 : ¬ (sn + N ≤ sc) := by omega
  have hcap := nextcap_le (sn + N) sc hgrow
  have hb1 : 1 ≤ inf.bytes := by omega
  have hNb : N * inf.bytes ≤ 281474976710656 := by
    have h1 : N * inf.bytes ≤ (2 * (sn + N) + 1000) * inf.bytes := Nat.mul_le_mul_right _ (by omega)
    omega
  have hsN : sn + N ≤ 281474976710656 := by
    have h1 : (sn + N) * 1 ≤ (2 * (sn + N) + 1000) * inf.bytes := Nat.mul_le_mul (by omega) hb1
    omega
  have hw : IntKind.i64.wrap (N : Int) = N := i64_in (by omega) (by omega)
  have hneg : ¬ ((N : Int) < 0) := by omega
  have h48i : ¬ (281474976710656 < (N : Int) * (inf.bytes : Int)) := by
    rw [← Int.natCast_mul]
    omega
  have h48p : ¬ ((2 : Int) ^ 48 < (N : Int) * (inf.bytes : Int)) := by
    rw [show (2 : Int) ^ 48 = 281474976710656 by decide]; exact h48i
  have h63 : ¬ ((9223372036854775807 : Int) < ((sn + N : Nat) : Int)) := by omega
  have h63' : ¬ ((9223372036854775807 : Int) < ((sn : Int) + (N : Int))) := by omega
  have hmul : ¬ (Builtin.nextslicecap (sn + N) sc * inf.bytes > 2 ^ 48) := by
    have := Nat.mul_le_mul_right inf.bytes hcap
    omega
  have hmulp : ¬ (2 ^ 48 < Builtin.nextslicecap (sn + N) sc * inf.bytes) := hmul
  have hns : ¬ (N * inf.size = 0) := Nat.mul_ne_zero (by omega) hs0
  have hroom2 : ∀ (b : Nat) (w : World), (askRoom b).run P w = .ok () w := fun b w => by
    unfold askRoom; split <;> rfl
  have hz3 : zv.cells = z.toArray := by rw [← hz2]
  have h1 := hold { w with drawn := w.drawn + 1 } rfl
  have hch : (choose (.appendCap (sn + N) sc el)).run P w = .ok (Question.cut (.appendCap (sn + N) sc el) (w.tape w.drawn (.appendCap (sn + N) sc el))) { w with drawn := w.drawn + 1 } := by
    simp [choose, Sem.run, Question.forced]
  have hnew : ∀ (c : Array Value) (w : World), (newRow el c).run P w = .ok ⟨w.heap.size, 0, none⟩ (w.alloc (.cells c el)) := fun c w => run_newRow w el c
  have hmul' : ¬ (281474976710656 < Builtin.nextslicecap (sn + N) sc * inf.bytes) := by omega
  have hai : ∀ w : World, (asInt (.int kn N)).run P w = .ok (N : Int) w := fun w => rfl
  have hmax : ¬ (IntKind.i64.max < ((sn + N : Nat) : Int)) := by
    have : IntKind.i64.max = 9223372036854775807 := by decide
    rw [this]; exact h63
  generalize Question.cut (.appendCap (sn + N) sc el) (w.tape w.drawn (.appendCap (sn + N) sc el)) = C at hch ⊢
  have fin : ∀ (y : Array Value), y = (old ++ (Builtin.zeroCells z.toArray N).toList ++ (Builtin.zeroCells z.toArray (C - (sn + N))).toList).toArray → ({ w with drawn := w.drawn + 1 } : World).alloc (.cells y el) = ({ w with drawn := w.drawn + 1 } : World).alloc (.cells (old ++ (Builtin.zeroCells z.toArray N).toList ++ (Builtin.zeroCells z.toArray (C - (sn + N))).toList).toArray el) := fun y h => by rw [h]
  simp only [Builtin.append_, List.getElem?_toArray, List.getElem?_cons_zero, List.getElem?_cons_succ, Sem.run_bind, run_underlying ht, run_underlying hu, Result.andThen_ok, Sem.run_pure, run_size hi, run_info hi,
      if_true, hai, hw, hneg, if_false, h48i, h48p, hmulp, true_or, and_true, Int.toNat_natCast, hn1, gt_iff_lt, hmax, false_and, hmul', hch, hroom2, h1, hz1, hz3, hnew, hns, Bool.not_true, Bool.false_eq_true]
  rw [fin _ (by simp)]
theorem OOK.appendZ {K : Env → Mem → GH → Prop} {t u el : TypeId} {s x : Operand} {inf : TypeInfo} {z : List Value} {A : Option Addr} {sn sc N : Nat} {old : List Value} {kn : IntKind}
    (hop : o.op = .call ⟨.builtin .append, #[s, x], #[t, u]⟩) (hs : e.va m s = some (.slice A sn sc)) (hx : e.va m x = some (.int kn N))
    (ht : P.underlying t = some (.slice el)) (hu : P.underlying u = some (.int kn)) (hi : P.info? el = some inf) {size bytes : Nat} (hsz : inf.size = size) (hbt : inf.bytes = bytes) (hz : zeroL P el = some z) (hb0 : bytes ≠ 0) (hs0 : size ≠ 0) (hzs : z.length = size)
    (hos : Src P g m (.slice A sn sc) sn size old) (hol : old.length = sn * size) (hN : 0 < N) (hgrow : sc < sn + N)
    (hroom : (2 * (sn + N) + 1000) * bytes ≤ 281474976710656)
    (hk : ∀ b' c' zs rest, sn + N ≤ c' → zs.length = N * size → (old ++ zs ++ rest).length = c' * size →
      snoc m ⟨b', .cells (old ++ zs ++ rest) el (0, 0)⟩ 0 fun _ m => putK n o.dst (.val (.slice (some ⟨b', 0, none⟩) (sn + N) c')) e fun e => K e m g) : OOK P n o e m g K := by
  subst hsz; subst hbt
  refine ⟨fun a w ha hw next Q hn hX => ?_⟩
  have he : ∀ (v : Value) (w' : World), (Builtin.append_ #[t, u] o.type #[.slice A sn sc, .int kn N]).run P w = .ok v w' → (execOp a.eval o).run P w = .ok (.value v) w' := by
    intro v w' hr
    simp [execOp, hop, resolve, invoke, builtin, ha.va hs, ha.va hx, hr]
  unfold Oper.wp
  obtain ⟨c', ys, r, w1, q1, qy, q2, q3, q4⟩ := run_append_zeros (P := P) (ty := o.type) (w := w) ht hu hi hz hb0 hs0 (fun w' hw' => (hos w' (hw.drew hw')).2) hN hgrow hroom
  rw [he _ _ q4]
  have hyl : ys.length = N * inf.size := by rw [qy, zeroCells_len]; simp [hzs]
  have hlen : (old ++ ys ++ r).length = c' * inf.size := by
    rw [q2]
    simp only [List.length_append, hol, hyl, zeroCells_len, hzs, List.size_toArray]
    rw [← Nat.add_mul, ← Nat.add_mul]
    congr 1; omega
  have hw1 : Has w1 g m := hw.drew (by rw [q3])
  have hsz : w1.heap.size = w.heap.size := by rw [q3]
  have h0 := hk w.heap.size c' ys r q1 hyl hlen
  rw [snoc_eq] at h0
  obtain ⟨e', h5, h6⟩ := putK_ok h0 (ha.ext (Mem.ext_append _ _)) (v := .slice (some ⟨w.heap.size, 0, none⟩) (sn + N) c') rfl
  have hal := hw1.alloc (.cells (old ++ ys ++ r) el (0, 0)) _ rfl
  rw [hsz] at hal
  refine hn _ _ e' _ g h5 hal ?_ h6
  have f1 : Fr w m g w1 m g := ⟨by rw [q3], by rw [q3], by rw [q3], by rw [q3]; exact Nat.le_refl _, .refl _, fun y _ _ => by rw [q3], fun _ _ _ => rfl, fun y _ hy h => hy h⟩
  have f2 := Fr.alloc (w := w1) (g := g) (m := m) (.cells (old ++ ys ++ r) el (0, 0)) (.cells (old ++ ys ++ r).toArray el (0, 0))
  rw [hsz] at f2
  exact f1.trans f2

/-- A call of a function that the model answers itself. -/
theorem OOK.extern {K : Env → Mem → GH → Prop} {fx : Operand} {xs : Array Operand} {ts : Array TypeId} {f : FuncId} {vs : List Value} {v : Value}
    (hop : o.op = .call ⟨.value fx, xs, ts⟩) (hf : e.va m fx = some (.func (.func f) #[] #[])) (hxs : mapV (e.va m) xs.toList = some vs)
    (hrun : ∀ w, Has w g m → (callFunc f vs.toArray).run P w = .ok (.value v) w) (hk : putK n o.dst (.val v) e fun e => K e m g) : OOK P n o e m g K := by
  refine ⟨fun a w ha hw next Q hn hX => ?_⟩
  have hxs' : xs.map a.eval = vs.toArray := by apply Array.toList_inj.1; simpa using mapV_ok (fun x v hx => ha.va hx) _ _ hxs
  have h0 : (execOp a.eval o).run P w = .ok (.value v) w := by
    simp only [execOp, hop, resolve, ha.va hf, Deferred.ofValue, Sem.run_bind, Sem.run_pure, Result.andThen_ok, invoke, hxs']
    simpa using hrun w hw
  unfold Oper.wp
  rw [h0]
  obtain ⟨e', h5, h6⟩ := putK_ok hk ha (v := v) rfl
  exact hn _ _ e' _ g h5 hw (.refl _ _ _) h6
end
end Go.SX
