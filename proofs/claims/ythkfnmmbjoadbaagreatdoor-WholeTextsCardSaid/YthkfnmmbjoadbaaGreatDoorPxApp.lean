/- SX, part 8: append, copy, clear; rows of elements. -/
import Derived.Test.YthkfnmmbjoadbaaGreatDoorPxCall
set_option linter.unusedVariables false
set_option linter.unusedSimpArgs false
namespace Go.SX
section
variable {P : Program} {n : Cfg} {o : Oper} {e : Env} {m : Mem} {g : GH}

/-- Where the cells that are appended, or copied, come from. -/
def Src (P : Program) (g : GH) (m : Mem) (x : Value) (k size : Nat) (ys : List Value) : Prop :=
  ∀ w, Has w g m → (Builtin.lenOf x).run P w = .ok k w ∧ (Builtin.firstCells size k x).run P w = .ok ys.toArray w
theorem Src.own {i b q k c size : Nat} {cs ys : List Value} {t : TypeId} {fr : Nat × Nat} (hm : m[i]? = some ⟨b, .cells cs t fr⟩) (hy : ys.length = k * size) (h : ∀ j v, ys[j]? = some v → cs[q + j]? = some v) :
    Src P g m (.slice (some ⟨b, q, none⟩) k c) k size ys := fun w hw => by
  refine ⟨rfl, ?_⟩
  have hb := hw.own _ (List.mem_of_getElem? hm) _ rfl
  rw [show (Slot.mk b (.cells cs t fr)).b = b from rfl] at hb
  simp only [Builtin.firstCells]
  rw [← hy]
  refine run_loadCells_list (P := P) w _ ys fun j v hj => ?_
  rw [add_plain]
  simp only [World.cell?, hb]
  simpa using h j v hj
theorem Src.reads {a : Addr} {k c size : Nat} {ys : List Value} (hy : ys.length = k * size) (h : Reads g a ys) : Src P g m (.slice (some a) k c) k size ys := fun w hw => by
  refine ⟨rfl, ?_⟩
  simp only [Builtin.firstCells]
  rw [← hy]
  exact run_loadCells_list (P := P) w a ys fun j v hj => by rw [← addN_eq]; exact hw.cellG (h j v hj)
theorem Src.nil {c size : Nat} : Src P g m (.slice none 0 c) 0 size [] := fun w hw => ⟨rfl, rfl⟩
theorem Src.nil' {A : Option Addr} {c size : Nat} : Src P g m (.slice A 0 c) 0 size [] := fun w hw => ⟨rfl, by
  cases A with
  | none => rfl
  | some a => simp [Builtin.firstCells, loadCells, loadCellsFrom]⟩
def bytesV (l : List UInt8) : List Value := l.map fun b => .int .u8 b.toNat
theorem Src.string {s : ByteArray} : Src P g m (.string s) s.size 1 (bytesV s.data.toList) := fun w hw => ⟨rfl, by
  have : s.extract 0 s.size = s := by
    apply ByteArray.ext
    simp [ByteArray.data_extract]
  simp only [Builtin.firstCells, this, Sem.run_pure]
  congr 1
  apply Array.toList_inj.1
  simp [bytesV]⟩

theorem nextcap_le (need c : Nat) (h : c < need) : Builtin.nextslicecap need c ≤ 2 * need + 1000 := by
  unfold Builtin.nextslicecap
  split
  · omega
  · split
    · omega
    · have key : ∀ r c, c ≤ 2 * need + 1000 → Builtin.growBy need r c ≤ 2 * need + 1000 := by
        intro r
        induction r with
        | zero => intro c hc; simpa [Builtin.growBy] using hc
        | succ r ih =>
          intro c hc
          unfold Builtin.growBy
          split
          · exact hc
          · exact ih _ (by omega)
      exact key _ _ (by omega)
/-- What is one's own of a slice: nothing of one without room, else a block from its head. -/
inductive OwnS (el : TypeId) (size : Nat) : Value → Nat → List Value → Mem → Prop
  | none (A : Option Addr) : OwnS el size (.slice A 0 0) 0 [] []
  | own (b n c : Nat) (cs rest : List Value) (h1 : cs.length = n * size) (h2 : (cs ++ rest).length = c * size) (h3 : n ≤ c) :
      OwnS el size (.slice (some ⟨b, 0, none⟩) n c) n cs [⟨b, .cells (cs ++ rest) el (0, 0)⟩]

theorem zeroCells_len (z : Array Value) (k : Nat) : (Builtin.zeroCells z k).toList.length = k * z.size := by simp [Builtin.zeroCells]

theorem run_append {t u el : TypeId} {x : Value} {inf : TypeInfo} {z : List Value} {A : Option Addr} {sn sc k : Nat} {old ys : List Value} {ty : TypeId} {w : World}
    (ht : P.underlying t = some (.slice el)) (hu : (∃ e, P.underlying u = some (.slice e)) ∨ P.underlying u = some .string) (hi : P.info? el = some inf) (hz : zeroL P el = some z) (hb0 : inf.bytes ≠ 0)
    (hsrc1 : (Builtin.lenOf x).run P w = .ok k w) (hsrc2 : ∀ w', w'.heap = w.heap → (Builtin.firstCells inf.size k x).run P w' = .ok ys.toArray w')
    (hold : ∀ w', w'.heap = w.heap → (Builtin.firstCells inf.size sn (.slice A sn sc)).run P w' = .ok old.toArray w')
    (hgrow : sc < sn + k) (hroom : (2 * (sn + k) + 1000) * inf.bytes ≤ 281474976710656) :
    ∃ c' r w1, sn + k ≤ c' ∧ r = (Builtin.zeroCells z.toArray (c' - (sn + k))).toList ∧ w1 = { w with drawn := w.drawn + 1 } ∧
      (Builtin.append_ #[t, u] ty #[.slice A sn sc, x]).run P w = .ok (.slice (some ⟨w.heap.size, 0, none⟩) (sn + k) c') (w1.alloc (.cells (old ++ ys ++ r).toArray el)) := by
  obtain ⟨zv, hz1, hz2⟩ := zeroL_ok hz { w with drawn := w.drawn + 1 }
  refine ⟨Question.cut (.appendCap (sn + k) sc el) (w.tape w.drawn (.appendCap (sn + k) sc el)), _, _, by simp [Question.cut], rfl, rfl, ?_⟩
  have hn1 : ¬ (sn + k ≤ sc) := by omega
  have hcap := nextcap_le (sn + k) sc hgrow
  have hmul : ¬ (Builtin.nextslicecap (sn + k) sc * inf.bytes > 2 ^ 48) := by
    have := Nat.mul_le_mul_right inf.bytes hcap
    omega
  have hroom2 : ∀ (b : Nat) (w : World), (askRoom b).run P w = .ok () w := fun b w => by
    unfold askRoom; split <;> rfl
  have hz3 : zv.cells = z.toArray := by rw [← hz2]
  have h1 := hold { w with drawn := w.drawn + 1 } rfl
  have h2 := hsrc2 { w with drawn := w.drawn + 1 } rfl
  have hch : (choose (.appendCap (sn + k) sc el)).run P w = .ok (Question.cut (.appendCap (sn + k) sc el) (w.tape w.drawn (.appendCap (sn + k) sc el))) { w with drawn := w.drawn + 1 } := by
    simp [choose, Sem.run, Question.forced]
  have hnew : ∀ (c : Array Value) (w : World), (newRow el c).run P w = .ok ⟨w.heap.size, 0, none⟩ (w.alloc (.cells c el)) := fun c w => run_newRow w el c
  have hmul' : ¬ (281474976710656 < Builtin.nextslicecap (sn + k) sc * inf.bytes) := by omega
  generalize Question.cut (.appendCap (sn + k) sc el) (w.tape w.drawn (.appendCap (sn + k) sc el)) = C at hch ⊢
  have fin : ∀ (y : Array Value), y = (old ++ ys ++ (Builtin.zeroCells z.toArray (C - (sn + k))).toList).toArray → ({ w with drawn := w.drawn + 1 } : World).alloc (.cells y el) = ({ w with drawn := w.drawn + 1 } : World).alloc (.cells (old ++ ys ++ (Builtin.zeroCells z.toArray (C - (sn + k))).toList).toArray el) := fun y h => by rw [h]
  rcases hu with ⟨e', hu⟩ | hu
  all_goals
    simp only [Builtin.append_, List.getElem?_toArray, List.getElem?_cons_zero, List.getElem?_cons_succ, Sem.run_bind, run_underlying ht, run_underlying hu, Result.andThen_ok, Sem.run_pure, run_size hi, run_info hi,
      Bool.false_eq_true, if_false, hsrc1, hn1, false_or, hb0, and_false, gt_iff_lt, hmul', hch, hroom2, h1, h2, hz1, hz3, hnew]
    simp only [Bool.not_false, if_true, h2, Result.andThen_ok, hz1, hz3]
    rw [fin _ (by simp)]
theorem run_append_in {t u el : TypeId} {x : Value} {inf : TypeInfo} {b sn sc k : Nat} {cs ys : List Value} {tt ty : TypeId} {w : World}
    (ht : P.underlying t = some (.slice el)) (hu : (∃ e, P.underlying u = some (.slice e)) ∨ P.underlying u = some .string) (hi : P.info? el = some inf)
    (hsrc1 : (Builtin.lenOf x).run P w = .ok k w) (hsrc2 : (Builtin.firstCells inf.size k x).run P w = .ok ys.toArray w)
    (hb : w.heap[b]? = some (.cells cs.toArray tt (0, 0))) (hfit : sn * inf.size + ys.length ≤ cs.length) (h1 : ∀ v ∈ ys, v.oneCell' = true) (hroom : sn + k ≤ sc) :
    (Builtin.append_ #[t, u] ty #[.slice (some ⟨b, 0, none⟩) sn sc, x]).run P w = .ok (.slice (some ⟨b, 0, none⟩) (sn + k) sc) (w.setRow b (cs.take (sn * inf.size) ++ ys ++ cs.drop (sn * inf.size + ys.length)).toArray) := by
  have hst := run_storeCells_at (P := P) b (sn * inf.size) tt ys 0 cs.toArray w hb (by simpa using hfit) h1
  have hst' : (storeCells ((⟨b, 0, none⟩ : Addr).add (sn * inf.size)) ys.toArray.toList).run P w = .ok () (w.setRow b (cs.take (sn * inf.size) ++ ys ++ cs.drop (sn * inf.size + ys.length)).toArray) := by
    rw [add_plain, Nat.zero_add]
    rw [show ys.toArray.toList = ys from rfl, hst]
    simp
  rcases hu with ⟨e', hu⟩ | hu
  all_goals
    simp only [Builtin.append_, List.getElem?_toArray, List.getElem?_cons_zero, List.getElem?_cons_succ, Sem.run_bind, run_underlying ht, run_underlying hu, Result.andThen_ok, Sem.run_pure, run_size hi, run_info hi,
      Bool.false_eq_true, if_false, hsrc1, hroom, if_true, Bool.not_false, hsrc2, hst']
theorem Has.drew {w w' g m} (h : Has w g m) (he : w'.heap = w.heap) : Has w' g m :=
  ⟨fun b o hb => by rw [he]; exact h.sub b o hb, fun s hs o ho => by rw [he]; exact h.own s hs o ho, h.inj, h.apart⟩
/-- Slot i gives up its block, the last slot has it. -/
theorem Has.moved {w g m} (h : Has w g m) {i : Nat} {b : Nat} {o1 : SO} {ob : Obj} (hm : m[i]? = some ⟨b, o1⟩) (ho : o1.ob = some ob) {w' : World} {o2 : SO} {ob2 : Obj} (ho2 : o2.ob = some ob2)
    (h1 : w'.heap[b]? = some ob2) (h2 : ∀ x, x ≠ b → w'.heap[x]? = w.heap[x]?) : Has w' g (m.set i ⟨b, .dead⟩ ++ [⟨b, o2⟩]) := by
  have hl : (Slot.mk b o1).live = true := live_iff.2 ⟨ob, ho⟩
  have hbl : b ∈ m.lives := Mem.mem_lives.2 ⟨_, List.mem_of_getElem? hm, rfl, ob, ho⟩
  have key : ∀ {j : Nat} {t : Slot}, (m.set i ⟨b, .dead⟩ ++ [(⟨b, o2⟩ : Slot)])[j]? = some t → t.live = true → (j ≠ i ∧ m[j]? = some t ∧ t.b ≠ b) ∨ (j = m.length ∧ t = ⟨b, o2⟩) := by
    intro j t hj ht
    rcases Nat.lt_or_ge j m.length with hlt | hge
    · rw [List.getElem?_append_left (by simpa using hlt)] at hj
      by_cases e : i = j
      · subst e
        rw [List.getElem?_set_self hlt] at hj
        obtain rfl := Option.some.inj hj
        simp [Slot.live, SO.ob] at ht
      · rw [List.getElem?_set_ne e] at hj
        exact .inl ⟨fun h => e h.symm, hj, fun hb => e (h.inj i j _ t hm hj hl ht hb.symm)⟩
    · rw [List.getElem?_append_right (by simpa using hge)] at hj
      simp only [List.length_set] at hj
      rcases Nat.eq_or_lt_of_le hge with he | hg
      · subst he; simp at hj; exact .inr ⟨rfl, hj.symm⟩
      · rw [List.getElem?_eq_none (by simp; omega)] at hj; cases hj
  refine ⟨fun x y hx => ?_, fun s hs y hy => ?_, fun j1 j2 s t k1 k2 hs ht hb => ?_, fun x hx => ?_⟩
  · rw [h2 x (fun e => by subst e; rw [h.apart _ hbl] at hx; cases hx)]; exact h.sub x y hx
  · obtain ⟨j, hj⟩ := List.mem_iff_getElem?.1 hs
    rcases key hj (live_iff.2 ⟨y, hy⟩) with ⟨_, hj', hne⟩ | ⟨_, rfl⟩
    · rw [h2 s.b hne]; exact h.own s (List.mem_of_getElem? hj') y hy
    · have : ob2 = y := Option.some.inj (ho2.symm.trans hy)
      subst this; exact h1
  · rcases key k1 hs with ⟨_, a1, c1⟩ | ⟨a1, c1⟩ <;> rcases key k2 ht with ⟨_, a2, c2⟩ | ⟨a2, c2⟩
    · exact h.inj j1 j2 s t a1 a2 hs ht hb
    · subst c2; exact (c1 hb).elim
    · subst c1; exact (c2 hb.symm).elim
    · rw [a1, a2]
  · obtain ⟨s, hs, rfl, y, hy⟩ := Mem.mem_lives.1 hx
    obtain ⟨j, hj⟩ := List.mem_iff_getElem?.1 hs
    rcases key hj (live_iff.2 ⟨y, hy⟩) with ⟨_, hj', hne⟩ | ⟨_, rfl⟩
    · exact h.apart _ (Mem.mem_lives.2 ⟨s, List.mem_of_getElem? hj', rfl, y, hy⟩)
    · exact h.apart _ hbl
theorem lives_moved {m : Mem} {i b : Nat} {o1 o2 : SO} {ob : Obj} (hm : m[i]? = some ⟨b, o1⟩) (ho : o1.ob = some ob) {x : Nat} (h : x ∈ Mem.lives (m.set i ⟨b, .dead⟩ ++ [⟨b, o2⟩])) : x ∈ m.lives := by
  rw [Mem.lives_append] at h
  rcases List.mem_append.1 h with h | h
  · exact lives_set (s' := ⟨b, .dead⟩) hm rfl ho h
  · obtain ⟨s, hs, rfl, _⟩ := Mem.mem_lives.1 h
    obtain rfl := List.mem_singleton.1 hs
    exact Mem.mem_lives.2 ⟨_, List.mem_of_getElem? hm, rfl, ob, ho⟩
theorem lives_dead {m : Mem} {i b : Nat} {o1 : SO} {ob : Obj} (hm : m[i]? = some ⟨b, o1⟩) (ho : o1.ob = some ob) {x : Nat} (h : x ∈ Mem.lives (m.set i ⟨b, .dead⟩)) : x ∈ m.lives :=
  lives_set (s' := ⟨b, .dead⟩) hm rfl ho h

def setF : Mem → Nat → Slot → (Mem → Prop) → Prop := fun m k s K => match setM m k s with
  | some l => K l
  | none => False
/-- append to a slice of one's own (slot i; its block's other cells are spare). -/
theorem OOK.appendOwn {K : Env → Mem → GH → Prop} {t u el : TypeId} {s x : Operand} {inf : TypeInfo} {z : List Value} (i : Nat) {b sn sc k : Nat} {cs old ys : List Value} {xv : Value}
    (hop : o.op = .call ⟨.builtin .append, #[s, x], #[t, u]⟩) (hs : e.va m s = some (.slice (some ⟨b, 0, none⟩) sn sc)) (hx : e.va m x = some xv)
    (ht : P.underlying t = some (.slice el)) (hu : (∃ e, P.underlying u = some (.slice e)) ∨ P.underlying u = some .string) (hi : P.info? el = some inf) {size bytes : Nat} (hsz : inf.size = size) (hbt : inf.bytes = bytes) (hz : zeroL P el = some z) (hb0 : bytes ≠ 0) (hzs : z.length = size)
    (hm : m[i]? = some ⟨b, .cells cs el (0, 0)⟩) (hold : cs.take (sn * size) = old) (hol : old.length = sn * size) (hcs : cs.length = sc * size) (hyl : ys.length = k * size)
    (hsrc : Src P g m xv k size ys) (h1 : ∀ v ∈ ys, v.oneCell' = true) (hroom : (2 * (sn + k) + 1000) * bytes ≤ 281474976710656)
    (hk : ∀ b' c' rest, sn + k ≤ c' → (old ++ ys ++ rest).length = c' * size → (sn + k ≤ sc → b' = b ∧ c' = sc) →
      setF m i ⟨b, .dead⟩ fun m => snoc m ⟨b', .cells (old ++ ys ++ rest) el (0, 0)⟩ 0 fun _ m => putK n o.dst (.val (.slice (some ⟨b', 0, none⟩) (sn + k) c')) e fun e => K e m g) : OOK P n o e m g K := by
  subst hsz; subst hbt
  have hk' : ∀ b' c' rest, sn + k ≤ c' → (old ++ ys ++ rest).length = c' * inf.size → (sn + k ≤ sc → b' = b ∧ c' = sc) →
      putK n o.dst (.val (.slice (some ⟨b', 0, none⟩) (sn + k) c')) e fun e => K e (m.set i ⟨b, .dead⟩ ++ [⟨b', .cells (old ++ ys ++ rest) el (0, 0)⟩]) g := by
    intro b' c' rest h1 h2 h3
    have := hk b' c' rest h1 h2 h3
    unfold setF at this
    split at this
    · rename_i l hl
      obtain ⟨rfl, _⟩ := setM_eq _ _ _ _ hl
      simpa [snoc_eq] using this
    · exact this.elim
  refine ⟨fun a w ha hw next Q hn hX => ?_⟩
  have hb := hw.own _ (List.mem_of_getElem? hm) _ rfl
  rw [show (Slot.mk b (.cells cs el (0, 0))).b = b from rfl] at hb
  obtain ⟨l1, l2⟩ := hsrc w hw
  have he : ∀ (v : Value) (w' : World), (Builtin.append_ #[t, u] o.type #[.slice (some ⟨b, 0, none⟩) sn sc, xv]).run P w = .ok v w' → (execOp a.eval o).run P w = .ok (.value v) w' := by
    intro v w' hr
    simp [execOp, hop, resolve, invoke, builtin, ha.va hs, ha.va hx, hr]
  unfold Oper.wp
  by_cases hr : sn + k ≤ sc
  · have hfit : sn * inf.size + ys.length ≤ cs.length := by rw [hyl, hcs, ← Nat.add_mul]; exact Nat.mul_le_mul_right _ hr
    have hrun := run_append_in (P := P) (ty := o.type) ht hu hi l1 l2 hb hfit h1 hr
    rw [he _ _ hrun, hold]
    have hlen : (old ++ ys ++ cs.drop (sn * inf.size + ys.length)).length = sc * inf.size := by
      simp only [List.length_append, List.length_drop, hol, hcs]
      omega
    obtain ⟨e', h5, h6⟩ := putK_ok (hk' b sc _ hr hlen fun _ => ⟨rfl, rfl⟩) (ha.ext ((Mem.ext_set (s' := ⟨b, .dead⟩) hm rfl).trans (Mem.ext_append _ _))) (v := .slice (some ⟨b, 0, none⟩) (sn + k) sc) rfl
    refine hn _ _ e' _ g h5 (hw.moved hm rfl (o2 := .cells _ el (0, 0)) rfl (setRow_heap w b _ _ el (0, 0) hb) fun y hy => ?_) ?_ h6
    · simp only [World.setRow, Array.getElem?_modify]
      rw [if_neg (by simpa using fun h => hy h.symm)]
    · refine ⟨rfl, rfl, rfl, by simp [World.setRow], .refl _, fun y hy hm' => ?_, fun _ _ _ => rfl, fun y hy hm' h => hm' (lives_moved hm rfl h)⟩
      have : y ≠ b := fun e => hm' (e ▸ Mem.mem_lives.2 ⟨_, List.mem_of_getElem? hm, rfl, _, rfl⟩)
      simp only [World.setRow, Array.getElem?_modify]
      rw [if_neg (by simpa using fun h => this h.symm)]
  · have holdrun : ∀ w', w'.heap = w.heap → (Builtin.firstCells inf.size sn (.slice (some ⟨b, 0, none⟩) sn sc)).run P w' = .ok old.toArray w' := by
      intro w' hw'
      have := (Src.own (P := P) (g := g) (i := i) (q := 0) (k := sn) (c := sc) (size := inf.size) (ys := old) hm hol (fun j v hj => by
        rw [← hold, List.getElem?_take] at hj
        split at hj
        · simpa using hj
        · cases hj)) w' (hw.drew hw')
      exact this.2
    obtain ⟨c', r, w1, q1, q2, q3, q4⟩ := run_append (P := P) (ty := o.type) (w := w) ht hu hi hz hb0 l1 (fun w' hw' => (hsrc w' (hw.drew hw')).2) holdrun (by omega) hroom
    rw [he _ _ q4]
    have hlen : (old ++ ys ++ r).length = c' * inf.size := by
      rw [q2]
      simp only [List.length_append, hol, hyl, zeroCells_len, hzs, List.size_toArray]
      rw [← Nat.add_mul, ← Nat.add_mul]
      congr 1; omega
    have hw1 : Has w1 g m := hw.drew (by rw [q3])
    have hd : Has w1 g (m.set i ⟨b, .dead⟩) := by
      refine ⟨hw1.sub, fun s hs y hy => ?_, fun j1 j2 s t k1 k2 hs ht hb => ?_, fun y hy => hw1.apart y (lives_dead hm rfl hy)⟩
      · obtain ⟨j, hj⟩ := List.mem_iff_getElem?.1 hs
        by_cases ee : i = j
        · subst ee
          rw [List.getElem?_set_self (List.getElem?_eq_some_iff.1 hm).1] at hj
          obtain rfl := Option.some.inj hj
          cases hy
        · rw [List.getElem?_set_ne ee] at hj; exact hw1.own s (List.mem_of_getElem? hj) y hy
      · have un : ∀ {j : Nat} {s : Slot}, (m.set i ⟨b, .dead⟩)[j]? = some s → s.live = true → m[j]? = some s := by
          intro j s hj hs
          by_cases ee : i = j
          · subst ee
            rw [List.getElem?_set_self (List.getElem?_eq_some_iff.1 hm).1] at hj
            obtain rfl := Option.some.inj hj
            simp [Slot.live, SO.ob] at hs
          · rwa [List.getElem?_set_ne ee] at hj
        exact hw1.inj j1 j2 s t (un k1 hs) (un k2 ht) hs ht hb
    have hsz : w1.heap.size = w.heap.size := by rw [q3]
    obtain ⟨e', h5, h6⟩ := putK_ok (hk' w.heap.size c' r q1 hlen fun h => absurd h hr) (ha.ext ((Mem.ext_set (s' := ⟨b, .dead⟩) hm rfl).trans (Mem.ext_append _ _))) (v := .slice (some ⟨w.heap.size, 0, none⟩) (sn + k) c') rfl
    have hal := hd.alloc (.cells (old ++ ys ++ r) el (0, 0)) _ rfl
    rw [hsz] at hal
    refine hn _ _ e' _ g h5 hal ?_ h6
    have f1 : Fr w m g w1 (m.set i ⟨b, .dead⟩) g := ⟨by rw [q3], by rw [q3], by rw [q3], by rw [q3]; exact Nat.le_refl _, .refl _, fun y _ _ => by rw [q3], fun _ _ _ => rfl, fun y _ hy h => hy (lives_dead hm rfl h)⟩
    have f2 := Fr.alloc (w := w1) (g := g) (m := m.set i ⟨b, .dead⟩) (.cells (old ++ ys ++ r) el (0, 0)) (.cells (old ++ ys ++ r).toArray el (0, 0))
    rw [hsz] at f2
    exact f1.trans f2
/-- append to a slice without room: nothing of it is written. -/
theorem OOK.appendNew {K : Env → Mem → GH → Prop} {t u el : TypeId} {s x : Operand} {inf : TypeInfo} {z : List Value} {A : Option Addr} {sn sc k : Nat} {old ys : List Value} {xv : Value}
    (hop : o.op = .call ⟨.builtin .append, #[s, x], #[t, u]⟩) (hs : e.va m s = some (.slice A sn sc)) (hx : e.va m x = some xv)
    (ht : P.underlying t = some (.slice el)) (hu : (∃ e, P.underlying u = some (.slice e)) ∨ P.underlying u = some .string) (hi : P.info? el = some inf) {size bytes : Nat} (hsz : inf.size = size) (hbt : inf.bytes = bytes) (hz : zeroL P el = some z) (hb0 : bytes ≠ 0) (hzs : z.length = size)
    (hos : Src P g m (.slice A sn sc) sn size old) (hol : old.length = sn * size) (hyl : ys.length = k * size) (hgrow : sc < sn + k)
    (hsrc : Src P g m xv k size ys) (hroom : (2 * (sn + k) + 1000) * bytes ≤ 281474976710656)
    (hk : ∀ b' c' rest, sn + k ≤ c' → (old ++ ys ++ rest).length = c' * size →
      snoc m ⟨b', .cells (old ++ ys ++ rest) el (0, 0)⟩ 0 fun _ m => putK n o.dst (.val (.slice (some ⟨b', 0, none⟩) (sn + k) c')) e fun e => K e m g) : OOK P n o e m g K := by
  subst hsz; subst hbt
  refine ⟨fun a w ha hw next Q hn hX => ?_⟩
  obtain ⟨l1, l2⟩ := hsrc w hw
  have he : ∀ (v : Value) (w' : World), (Builtin.append_ #[t, u] o.type #[.slice A sn sc, xv]).run P w = .ok v w' → (execOp a.eval o).run P w = .ok (.value v) w' := by
    intro v w' hr
    simp [execOp, hop, resolve, invoke, builtin, ha.va hs, ha.va hx, hr]
  unfold Oper.wp
  obtain ⟨c', r, w1, q1, q2, q3, q4⟩ := run_append (P := P) (ty := o.type) (w := w) ht hu hi hz hb0 l1 (fun w' hw' => (hsrc w' (hw.drew hw')).2) (fun w' hw' => (hos w' (hw.drew hw')).2) hgrow hroom
  rw [he _ _ q4]
  have hlen : (old ++ ys ++ r).length = c' * inf.size := by
    rw [q2]
    simp only [List.length_append, hol, hyl, zeroCells_len, hzs, List.size_toArray]
    rw [← Nat.add_mul, ← Nat.add_mul]
    congr 1; omega
  have hw1 : Has w1 g m := hw.drew (by rw [q3])
  have hsz : w1.heap.size = w.heap.size := by rw [q3]
  have h0 := hk w.heap.size c' r q1 hlen
  rw [snoc_eq] at h0
  obtain ⟨e', h5, h6⟩ := putK_ok h0 (ha.ext (Mem.ext_append _ _)) (v := .slice (some ⟨w.heap.size, 0, none⟩) (sn + k) c') rfl
  have hal := hw1.alloc (.cells (old ++ ys ++ r) el (0, 0)) _ rfl
  rw [hsz] at hal
  refine hn _ _ e' _ g h5 hal ?_ h6
  have f1 : Fr w m g w1 m g := ⟨by rw [q3], by rw [q3], by rw [q3], by rw [q3]; exact Nat.le_refl _, .refl _, fun y _ _ => by rw [q3], fun _ _ _ => rfl, fun y _ hy h => hy h⟩
  have f2 := Fr.alloc (w := w1) (g := g) (m := m) (.cells (old ++ ys ++ r) el (0, 0)) (.cells (old ++ ys ++ r).toArray el (0, 0))
  rw [hsz] at f2
  exact f1.trans f2
/-- append of nothing to a slice of no length and no room. -/
theorem OOK.appendNone {K : Env → Mem → GH → Prop} {t u el : TypeId} {s x : Operand} {inf : TypeInfo} {A : Option Addr} {xv : Value}
    (hop : o.op = .call ⟨.builtin .append, #[s, x], #[t, u]⟩) (hs : e.va m s = some (.slice A 0 0)) (hx : e.va m x = some xv)
    (ht : P.underlying t = some (.slice el)) (hu : (∃ e, P.underlying u = some (.slice e)) ∨ P.underlying u = some .string) (hi : P.info? el = some inf) {size bytes : Nat} (hsz : inf.size = size) (hbt : inf.bytes = bytes)
    (hsrc : Src P g m xv 0 size []) (hk : putK n o.dst (.val (.slice A 0 0)) e fun e => K e m g) : OOK P n o e m g K := by
  subst hsz; subst hbt
  refine OOK.val (s := .val (.slice A 0 0)) rfl (fun a w ha hw => ?_) hk
  obtain ⟨l1, l2⟩ := hsrc w hw
  have : (Builtin.append_ #[t, u] o.type #[.slice A 0 0, xv]).run P w = .ok (.slice A 0 0) w := by
    rcases hu with ⟨e', hu⟩ | hu
    all_goals
      cases A <;> simp [Builtin.append_, run_underlying ht, run_underlying hu, run_size hi, l1, l2, storeCells]
  simp [execOp, hop, resolve, invoke, builtin, ha.va hs, ha.va hx, this]
/-- clear of cells of one's own. -/
theorem OOK.clearOwn {K : Env → Mem → GH → Prop} {t el : TypeId} {x : Operand} {inf : TypeInfo} {z : List Value} (i : Nat) {b q k sc : Nat} {cs : List Value} {t' : TypeId}
    (hop : o.op = .call ⟨.builtin .clear, #[x], #[t]⟩) (hx : e.va m x = some (.slice (some ⟨b, q, none⟩) k sc))
    (ht : P.underlying t = some (.slice el)) (hi : P.info? el = some inf) {size bytes : Nat} (hsz : inf.size = size) (hbt : inf.bytes = bytes) (hz : zeroL P el = some z) (hzs : z.length = size) (hz1 : allOne z = true)
    (hm : m[i]? = some ⟨b, .cells cs t' (0, 0)⟩) (hq : q + k * size ≤ cs.length)
    (hk : ∀ zs, zs.length = k * size → setF m i ⟨b, .cells (cs.take q ++ zs ++ cs.drop (q + k * size)) t' (0, 0)⟩ fun m => putK n o.dst (.val (.tuple #[])) e fun e => K e m g) : OOK P n o e m g K := by
  subst hsz; subst hbt
  refine ⟨fun a w ha hw next Q hn hX => ?_⟩
  have hb := hw.own _ (List.mem_of_getElem? hm) _ rfl
  rw [show (Slot.mk b (.cells cs t' (0, 0))).b = b from rfl] at hb
  obtain ⟨zv, hz2, hz3⟩ := zeroL_ok hz w
  have hz4 : zv.cells = z.toArray := by rw [← hz3]
  have hlen : (Builtin.zeroCells z.toArray k).toList.length = k * inf.size := by rw [zeroCells_len]; simp [hzs]
  have hone : ∀ v ∈ (Builtin.zeroCells z.toArray k).toList, v.oneCell' = true := by
    intro v hv
    simp only [Builtin.zeroCells, Array.toList_map, List.mem_map] at hv
    obtain ⟨j, hj, rfl⟩ := hv
    have hpos : 0 < z.length := by
      rcases Nat.eq_zero_or_pos z.length with h0 | h0
      · simp [h0] at hj
      · exact h0
    have hlt : j % z.length < z.length := Nat.mod_lt _ hpos
    simp only [List.size_toArray]
    rw [getElem!_pos z.toArray (j % z.length) (by simpa using hlt)]
    exact allOne_ok hz1 _ (by simp)
  have hst := run_storeCells_at (P := P) b q t' (Builtin.zeroCells z.toArray k).toList 0 cs.toArray w hb (by rw [hlen]; simpa using hq) hone
  obtain ⟨zs, hzs'⟩ : ∃ zs, zs = (Builtin.zeroCells z.toArray k).toList := ⟨_, rfl⟩
  rw [← hzs'] at hst hlen
  have hrun : (execOp a.eval o).run P w = .ok (.value (.tuple #[])) (w.setRow b (cs.take q ++ zs ++ cs.drop (q + k * inf.size)).toArray) := by
    have hst' : (storeCells ⟨b, q, none⟩ zs).run P w = .ok () (w.setRow b (cs.take q ++ zs ++ cs.drop (q + k * inf.size)).toArray) := by
      rw [hst, hlen]; simp
    cases k with
    | zero =>
      have : zs = [] := List.eq_nil_of_length_eq_zero (by simpa using hlen)
      subst this
      have h0 : (cs.take q ++ [] ++ cs.drop (q + 0 * inf.size)).toArray = cs.toArray := by simp
      rw [h0, setRow_self w b _ _ _ hb]
      simp [execOp, hop, resolve, invoke, builtin, ha.va hx, Builtin.clear_, run_underlying ht]
    | succ k =>
      simp only [execOp, hop, resolve, invoke, builtin, List.map_toArray, List.map_cons, List.map_nil, ha.va hx, Builtin.clear_, List.getElem?_toArray, List.getElem?_cons_zero, Sem.run_bind, Sem.run_pure, Result.andThen_ok, run_underlying ht, hz2, hz4, ← hzs', hst']
  obtain ⟨e', h5, h6⟩ : ∃ e', Agr (a.put o.dst (.tuple #[])) n e' (m.set i ⟨b, .cells (cs.take q ++ zs ++ cs.drop (q + k * inf.size)) t' (0, 0)⟩) ∧ K e' (m.set i ⟨b, .cells (cs.take q ++ zs ++ cs.drop (q + k * inf.size)) t' (0, 0)⟩) g := by
    have h0 := hk zs hlen
    unfold setF at h0
    split at h0
    · rename_i l hl
      obtain ⟨rfl, _⟩ := setM_eq _ _ _ _ hl
      exact putK_ok h0 (ha.ext (Mem.ext_set hm rfl)) (v := .tuple #[]) rfl
    · exact h0.elim
  unfold Oper.wp
  rw [hrun]
  refine hn _ _ e' _ g h5 ?_ ?_ h6
  · refine hw.write hm rfl (.cells _ t' (0, 0)) _ rfl (setRow_heap w b _ _ t' (0, 0) hb) fun x hx => ?_
    simp only [World.setRow, Array.getElem?_modify]
    rw [if_neg (by simpa using fun h => hx h.symm)]
  · refine Fr.write hm rfl (.cells _ t' (0, 0)) (fun x hx => ?_) ?_ rfl rfl rfl
    · simp only [World.setRow, Array.getElem?_modify]
      rw [if_neg (by simpa using fun h => hx h.symm)]
    · simp [World.setRow]
end
end Go.SX
