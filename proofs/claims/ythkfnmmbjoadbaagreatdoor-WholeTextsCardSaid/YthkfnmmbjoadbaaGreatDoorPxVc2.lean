/- SX, part 5: that function is sound. -/
import Derived.Test.YthkfnmmbjoadbaaGreatDoorPxVc
set_option linter.unusedVariables false
set_option linter.unusedSimpArgs false
namespace Go.SX
section
variable {P : Program} {n : Cfg} {o : Oper} {e : Env} {m : Mem} {g : GH} {K : Env → Mem → GH → Prop}

theorem fill_mono {p p' : Nat → Option (Nat × Nat)} (h : ∀ i x, p i = some x → p' i = some x) : ∀ (l : List (Nat × Value)) (c r : Array Value), Instr.fill p c l = some r → Instr.fill p' c l = some r
  | [], c, r, hr => by simpa [Instr.fill] using hr
  | (i, v) :: l, c, r, hr => by
    unfold Instr.fill at hr ⊢
    split at hr
    · cases hr
    · rename_i off size hp
      simp only [h i _ hp]
      split at hr
      · cases hr
      · rename_i hc
        rw [if_neg hc]
        exact fill_mono h l _ r hr
theorem gridL_get {size : Nat} : ∀ (len off i : Nat) (x : Nat × Nat), (gridL size len off)[i]? = some x → x = (off + i * size, size)
  | 0, off, i, x, h => by simp [gridL] at h
  | len + 1, off, 0, x, h => by simp [gridL] at h; simp [h]
  | len + 1, off, i + 1, x, h => by
    simp only [gridL, List.getElem?_cons_succ] at h
    rw [gridL_get len (off + size) i x h]
    simp [Nat.succ_mul, Nat.add_assoc, Nat.add_comm size]
theorem repL_length (z : List Value) : ∀ len, (repL z len).length = len * z.length
  | 0 => by simp [repL]
  | len + 1 => by simp [repL, repL_length z len, Nat.succ_mul]; omega
theorem repL_get (z : List Value) : ∀ (len i : Nat), i < len * z.length → (repL z len)[i]? = z[i % z.length]?
  | 0, i, h => by omega
  | len + 1, i, h => by
    simp only [repL]
    rcases Nat.lt_or_ge i z.length with hl | hl
    · rw [List.getElem?_append_left hl, Nat.mod_eq_of_lt hl]
    · rw [List.getElem?_append_right hl, repL_get z len (i - z.length) (by rw [Nat.succ_mul] at h; omega)]
      congr 1
      rw [← Nat.mod_eq_sub_mod hl]
theorem repL_array (z : Array Value) (len : Nat) : (Array.range (len * z.size)).map (fun i => z[i % z.size]!) = (repL z.toList len).toArray := by
  apply Array.ext'
  apply List.ext_getElem?
  intro i
  by_cases hi : i < len * z.size
  · have h := repL_get z.toList len i (by simpa using hi)
    have hz : i % z.size < z.size := Nat.mod_lt _ (by rcases Nat.eq_zero_or_pos z.size with h0 | h0; (rw [h0] at hi; omega); exact h0)
    simp only [Array.length_toList] at h
    show _ = (repL z.toList len)[i]?
    rw [h]
    simp [hi, hz]
  · rw [List.getElem?_eq_none (by simp; omega), List.getElem?_eq_none (by simp [repL_length]; omega)]

theorem vcOp_ok (h : vcOp P n o e m g K) : OOK P n o e m g K := by
  cases hop : o.op
  case move x =>
    simp only [vcOp, hop] at h
    split at h
    · rename_i s hs
      exact ⟨fun a w ha hw next Q hn hX => by
        obtain ⟨e', h1, h2⟩ := putK_ok h ha (ha.op hs)
        unfold Oper.wp
        have : (execOp a.eval o).run P w = .ok (.value (a.eval x)) w := by simp [execOp, hop]
        rw [this]
        exact hn _ _ e' m g h1 hw (.refl _ _ _) h2⟩
    · exact h.elim
  case assign x =>
    simp only [vcOp, hop] at h
    split at h
    · rename_i s hs
      exact ⟨fun a w ha hw next Q hn hX => by
        obtain ⟨e', h1, h2⟩ := putK_ok h ha (ha.op hs)
        unfold Oper.wp
        have : (execOp a.eval o).run P w = .ok (.value (a.eval x)) w := by simp [execOp, hop]
        rw [this]
        exact hn _ _ e' m g h1 hw (.refl _ _ _) h2⟩
    · exact h.elim
  case pick c x y =>
    simp only [vcOp, hop] at h
    split at h
    · rename_i hc
      split at h
      · rename_i s hs
        exact ⟨fun a w ha hw next Q hn hX => by
          obtain ⟨e', h1, h2⟩ := putK_ok h ha (ha.op hs)
          unfold Oper.wp
          have hc' : a.eval c = .bool true := (Option.some.inj (ha.op hc)).symm
          have : (execOp a.eval o).run P w = .ok (.value (a.eval x)) w := by simp [execOp, hop, hc', asBool]
          rw [this]
          exact hn _ _ e' m g h1 hw (.refl _ _ _) h2⟩
      · exact h.elim
    · rename_i hc
      split at h
      · rename_i s hs
        exact ⟨fun a w ha hw next Q hn hX => by
          obtain ⟨e', h1, h2⟩ := putK_ok h ha (ha.op hs)
          unfold Oper.wp
          have hc' : a.eval c = .bool false := (Option.some.inj (ha.op hc)).symm
          have : (execOp a.eval o).run P w = .ok (.value (a.eval y)) w := by simp [execOp, hop, hc', asBool]
          rw [this]
          exact hn _ _ e' m g h1 hw (.refl _ _ _) h2⟩
      · exact h.elim
    · rename_i t hc
      split at h
      · rename_i p q hp hq
        refine OOK.val (s := .val (.bool (cond t p q))) rfl (fun a w ha hw => ?_) h
        have hc' : a.eval c = .bool t := (Option.some.inj (ha.op hc)).symm
        cases t <;> simp [execOp, hop, hc', asBool, ha.va hp, ha.va hq]
      · rename_i p q _ hp hq
        refine OOK.val (s := .val (cond t p q)) rfl (fun a w ha hw => ?_) h
        have hc' : a.eval c = .bool t := (Option.some.inj (ha.op hc)).symm
        cases t <;> simp [execOp, hop, hc', asBool, ha.va hp, ha.va hq]
      · exact h.elim
    · exact h.elim
  case nilCheck x =>
    simp only [vcOp, hop] at h
    split at h
    · rename_i k q hx
      exact ⟨fun a w ha hw next Q hn hX => by
        have hd := ha.op hx
        obtain ⟨e', h1, h2⟩ := putK_ok h ha hd
        simp only [SV.den, Option.map_eq_some_iff] at hd
        obtain ⟨s, hs1, hs2⟩ := hd
        unfold Oper.wp
        have : (execOp a.eval o).run P w = .ok (.value (a.eval x)) w := by simp [execOp, hop, ← hs2]
        rw [this]
        exact hn _ _ e' m g h1 hw (.refl _ _ _) h2⟩
    · exact OOK.pv (by rw [hop]; exact h)
  case fieldAddr s x f =>
    simp only [vcOp, hop] at h
    split at h
    · rename_i k q hx
      split at h
      · rename_i fs hu
        split at h
        · rename_i fd hf
          split at h
          · rename_i i hi
            split at h
            · rename_i hz
              have hz' : i.size ≠ 0 := fun e => by rw [e] at hz; simp at hz
              have hf' : fs[f]? = some fd := by simpa using hf
              exact ⟨fun a w ha hw next Q hn hX => by
                have hd := ha.op hx
                simp only [SV.den, Option.map_eq_some_iff] at hd
                obtain ⟨sl, hs1, hs2⟩ := hd
                obtain ⟨e', h1, h2⟩ := putK_ok (v := .pointer (some ⟨sl.b, q + fd.offset, none⟩)) h ha (by simp [SV.den, hs1])
                unfold Oper.wp
                have : (execOp a.eval o).run P w = .ok (.value (.pointer (some ⟨sl.b, q + fd.offset, none⟩))) w := by
                  simp [execOp, hop, ← hs2, Instr.fieldAt, run_underlying hu, hf', Instr.sureAddr, fieldPlace, run_size hi, hz', add_plain]
                rw [this]
                exact hn _ _ e' m g h1 hw (.refl _ _ _) h2⟩
            · exact h.elim
          · exact h.elim
        · exact h.elim
      · exact h.elim
    · exact OOK.pv (by rw [hop]; exact h)
  case alloc t =>
    simp only [vcOp, hop] at h
    split at h
    · rename_i z hz
      refine OOK.new (.cells z t (0, 0)) _ rfl (fun b k => .own k 0) (fun b => .pointer (some ⟨b, 0, none⟩)) (fun w _ => den_own_snoc _ _ _) (fun a w ha hw => ?_) h
      obtain ⟨v, h1, h2⟩ := zeroL_ok hz w
      have h2' : v.cells = z.toArray := by rw [← h2]
      simp [execOp, hop, Instr.alloc, h1, newVar, run_newRow, h2']
    · exact h.elim
  case box t x =>
    simp only [vcOp, hop] at h
    split at h
    · rename_i v hx
      refine OOK.new (.cells v.cells.toList t (0, 0)) _ rfl (fun b k => .own k 0) (fun b => .pointer (some ⟨b, 0, none⟩)) (fun w _ => den_own_snoc _ _ _) (fun a w ha hw => ?_) h
      simp [execOp, hop, Instr.box, newVar, run_newRow, ha.va hx]
    · exact h.elim
  case buildSlice t len ps =>
    simp only [vcOp, hop] at h
    split at h
    · rename_i el vs hu hv
      split at h
      · rename_i i z hi hz
        split at h
        · rename_i hle hlen
          split at h
          · rename_i c hc
            refine OOK.new (.cells c el (0, 0)) _ rfl (fun b k => .val (.slice (some ⟨b, 0, none⟩) len len)) (fun b => .slice (some ⟨b, 0, none⟩) len len) (fun w _ => rfl) (fun a w ha hw => ?_) h
            obtain ⟨zv, h1, h2⟩ := zeroL_ok hz w
            have hlen' : z.length = i.size := Nat.eq_of_beq_eq_true hlen
            have hle' : ¬ (len * i.size > 2 ^ 24) := by have := Nat.le_of_ble_eq_true hle; omega
            have hps : (ps.map fun (i, x) => (i, a.eval x)).toList = vs := by
              have := partsV_ok (ρ := e.va m) (ρ' := a.eval) (fun x v hx => ha.va hx) _ _ hv
              simpa using this
            have hsz : zv.cells.size = i.size := by rw [← hlen', ← h2]; simp
            have hfill : Instr.fill (fun j => some (j * i.size, i.size)) (repL z len).toArray vs = some c.toArray := by
              refine fill_mono (fun j x hj => ?_) _ _ _ (fillL_ok (fs := gridL i.size len 0) vs (repL z len).toArray c (by simpa using hc))
              have := gridL_get len 0 j x (by simpa using hj)
              rw [this]; simp
            simp only [execOp, hop, Instr.buildSlice, Sem.run_bind, run_underlying hu, Result.andThen_ok, run_size hi, if_neg hle']
            by_cases h0 : len * i.size = 0
            · have hr : repL z len = [] := List.eq_nil_of_length_eq_zero (by rw [repL_length, hlen', h0])
              rw [hr] at hfill
              have hfill' : Instr.fill (fun j => some (j * i.size, i.size)) #[] vs = some c.toArray := hfill
              have hz : ∀ f : Nat → Value, (Array.range 0).map f = #[] := fun f => by simp
              simp only [h0, if_true, Sem.run_bind, Sem.run_pure, Result.andThen_ok, hps, hz, hfill', run_newRow]
            · have harr : (Array.range (len * i.size)).map (fun j => zv.cells[j % zv.cells.size]!) = (repL z len).toArray := by
                rw [← hsz, repL_array, h2]
              simp only [h0, if_false, Sem.run_bind, Sem.run_pure, h1, Result.andThen_ok, hps, harr, hfill, run_newRow]
          · exact h.elim
        · exact h.elim
      · exact h.elim
    · exact h.elim
  case load t x =>
    simp only [vcOp, hop] at h
    split at h
    · rename_i k q hx
      split at h
      · rename_i b c t' fr hk
        rw [nth_eq] at hk
        obtain ⟨h1, h2⟩ := vcOp_load (P := P) (n := n) (g := g) (K := K) hop hx hk
        split at h
        · rename_i ht
          split at h
          · rename_i v hv; rw [nthV_eq] at hv; exact h1 v ht hv h
          · exact h.elim
        · rename_i sz ht
          split at h
          · rename_i l hl; exact h2 sz l ht hl h
          · exact h.elim
        · exact h.elim
      · exact h
    · exact h
  case store t x y =>
    simp only [vcOp, hop] at h
    split at h
    · rename_i k q v hx hy
      split at h
      · rename_i b c t' i hk hi
        rw [nth_eq] at hk
        split at h
        · rename_i hsz h1
          split at h
          · rename_i c' hc
            split at h
            · rename_i m' hm
              obtain ⟨rfl, _⟩ := setM_eq _ _ _ _ hm
              exact vcOp_store hop hx hy hk hi (Nat.eq_of_beq_eq_true hsz) h1 hc h
            · exact h.elim
          · exact h.elim
        · exact h.elim
      · exact h
    · exact h
  all_goals exact OOK.pv (by simpa only [vcOp, hop] using h)

theorem not_wanted {a : Act} {ops : Array Oper} {j t : Nat} {want : Bool} (ha : Agr a n e m) (hg : o.guard = some (j, want)) (hj : (ops[j]?).bind (·.dst) = some t) {v : Value} (hx : e.get t = some (.val v)) (hv : notBool v = true) : Region.wanted o (yielded ops a.tmps) = false := by
  obtain ⟨u, h1, h2⟩ := ha.at_ t _ hx
  obtain rfl : v = u := Option.some.inj h1
  have : yielded ops a.tmps j = none := by
    unfold yielded
    rw [hj]
    simp only [Option.bind_some, h2]
    cases v <;> first | rfl | cases hv
  simp [Region.wanted, hg, this]
theorem OLs.skipV {ops : Array Oper} {r : List Oper} {j t : Nat} {want : Bool} (hg : o.guard = some (j, want)) (hj : (ops[j]?).bind (·.dst) = some t) {v : Value} (hx : e.get t = some (.val v)) (hv : notBool v = true)
    (h : putK n o.dst (.val undef) e fun e => OLs P n ops r e m g K) : OLs P n ops (o :: r) e m g K :=
  fun a w ha hw Q hQ => by
    have hyl := not_wanted ha hg hj hx hv
    unfold wpList
    rw [if_neg (by simp [hyl])]
    obtain ⟨e', h1, h2⟩ := putK_ok h ha (v := undef) rfl
    exact h2 _ w h1 hw Q hQ
theorem OLs.skip_ {ops : Array Oper} {r : List Oper} {j t : Nat} {want : Bool} (hg : o.guard = some (j, want)) (hj : (ops[j]?).bind (·.dst) = some t) {x : SV} (hx : e.get t = some x) {b : Bool}
    (hd : x.den m = some (.bool b)) (hb : b ≠ want) (h : putK n o.dst (.val undef) e fun e => OLs P n ops r e m g K) : OLs P n ops (o :: r) e m g K :=
  fun a w ha hw Q hQ => by
    have hyl := yielded_of ha hj hx hd
    unfold wpList
    rw [if_neg (by simp [Region.wanted, hg, hyl, hb])]
    obtain ⟨e', h1, h2⟩ := putK_ok h ha (v := undef) rfl
    exact h2 _ w h1 hw Q hQ
theorem OLs.take_ {ops : Array Oper} {r : List Oper} {j t : Nat} {want : Bool} (hg : o.guard = some (j, want)) (hj : (ops[j]?).bind (·.dst) = some t) {x : SV} (hx : e.get t = some x) {b : Bool}
    (hd : x.den m = some (.bool b)) (hb : b = want) (h : OOK P n o e m g (fun e' m' g' => OLs P n ops r e' m' g' K)) : OLs P n ops (o :: r) e m g K :=
  OLs.guarded hg hj hx hd (fun _ => h) fun hn => (hn hb).elim
/-- A bool that is known may be called so. -/
theorem Agr.know {a : Act} {t : Nat} {b : Bool} (ha : Agr a n e m) (hx : e.get t = some (.val (.bool b))) : (b = true → Agr a n ((t, .tt) :: e) m) ∧ (b = false → Agr a n ((t, .ff) :: e) m) := by
  obtain ⟨v, h1, h2⟩ := ha.at_ t _ hx
  have : v = .bool b := (Option.some.inj h1).symm
  subst this
  constructor
  · rintro rfl
    exact ⟨ha.defers, ha.size, fun u y hy => by
      simp only [Env.get_cons] at hy
      split at hy
      · rename_i h; subst h; obtain rfl := Option.some.inj hy; exact ⟨_, rfl, h2⟩
      · exact ha.at_ u y hy⟩
  · rintro rfl
    exact ⟨ha.defers, ha.size, fun u y hy => by
      simp only [Env.get_cons] at hy
      split at hy
      · rename_i h; subst h; obtain rfl := Option.some.inj hy; exact ⟨_, rfl, h2⟩
      · exact ha.at_ u y hy⟩
theorem OLs.know {ops : Array Oper} {l : List Oper} {t : Nat} {b : Bool} (hx : e.get t = some (.val (.bool b))) (ht : b = true → OLs P n ops l ((t, .tt) :: e) m g K) (hf : b = false → OLs P n ops l ((t, .ff) :: e) m g K) :
    OLs P n ops l e m g K := fun a w ha hw Q hQ => by
  cases b with
  | true => exact ht rfl a w ((ha.know hx).1 rfl) hw Q hQ
  | false => exact hf rfl a w ((ha.know hx).2 rfl) hw Q hQ
theorem OOK.mono {K' : Env → Mem → GH → Prop} (h : OOK P n o e m g K) (hk : ∀ e m g, K e m g → K' e m g) : OOK P n o e m g K' :=
  ⟨fun a w ha hw next Q hn hX => h.ok a w ha hw next Q (fun a' w' e' m' g' h1 h2 h3 h4 => hn a' w' e' m' g' h1 h2 h3 (hk _ _ _ h4)) hX⟩
theorem putK_mono {d x} {K K' : Env → Prop} (h : putK n d x e K) (hk : ∀ e, K e → K' e) : putK n d x e K' := by
  unfold putK at *
  split
  · exact hk _ h
  · rename_i t
    cases hb : Nat.blt t n.n with
    | true => simp only [hb] at h ⊢; exact hk _ h
    | false => simp only [hb] at h
theorem vcOps_ok {ops : Array Oper} : ∀ (l : List Oper) (e : Env) (m : Mem) (g : GH) (K : Env → Mem → GH → Prop), vcOps P n ops.toList l e m g K → OLs P n ops l e m g K
  | [], e, m, g, K, h => OLs.nil h
  | o :: r, e, m, g, K, h => by
    simp only [vcOps] at h
    have go : ∀ {e : Env}, vcOp P n o e m g (fun e m g => vcOps P n ops.toList r e m g K) → OOK P n o e m g (fun e m g => OLs P n ops r e m g K) := fun h => (vcOp_ok h).mono fun e m g hh => vcOps_ok r e m g K hh
    have sk : ∀ {e : Env}, putK n o.dst (.val undef) e (fun e => vcOps P n ops.toList r e m g K) → putK n o.dst (.val undef) e (fun e => OLs P n ops r e m g K) := fun h => putK_mono h fun e hh => vcOps_ok r e m g K hh
    split at h
    · rename_i hg
      exact OLs.cons hg (go h)
    · rename_i j want hg
      split at h
      · exact h.elim
      · rename_i oj hj
        rw [nthO_eq] at hj
        split at h
        · exact h.elim
        · rename_i t ht
          have hjt : (ops[j]?).bind (·.dst) = some t := by
            have : ops[j]? = some oj := by simpa using hj
            simp [this, ht]
          split at h
          · rename_i hx
            split at h
            · exact OLs.take_ hg hjt hx rfl rfl (go h)
            · exact OLs.skip_ hg hjt hx rfl (by simp) (sk h)
          · rename_i hx
            split at h
            · exact OLs.take_ hg hjt hx rfl rfl (go h)
            · exact OLs.skip_ hg hjt hx rfl (by simp) (sk h)
          · rename_i b hx
            have g1 : Env.get ((t, SV.tt) :: e) t = some .tt := by simp [Env.get_cons]
            have g2 : Env.get ((t, SV.ff) :: e) t = some .ff := by simp [Env.get_cons]
            split at h
            · refine OLs.know hx (fun hb => ?_) fun hb => ?_
              · exact OLs.take_ hg hjt g1 rfl rfl (go (h.t hb))
              · exact OLs.skip_ hg hjt g2 rfl (by simp) (sk (h.f hb))
            · refine OLs.know hx (fun hb => ?_) fun hb => ?_
              · exact OLs.skip_ hg hjt g1 rfl (by simp) (sk (h.t hb))
              · exact OLs.take_ hg hjt g2 rfl rfl (go (h.f hb))
          · rename_i v _ hx
            split at h
            · rename_i hv
              exact OLs.skipV hg hjt hx hv (sk h)
            · exact h.elim
          · exact h.elim
theorem thenK_mono {N N' : Env → Mem → GH → Prop} {K : KK} (h : ∀ e m g, N e m g → N' e m g) : ∀ x e m g, thenK N K x e m g → thenK N' K x e m g := by
  intro x e m g hh
  cases x <;> first | exact h _ _ _ hh | exact hh
theorem vcC_ok : ∀ (c : Code) (e : Env) (m : Mem) (g : GH) (K : KK), vcC P n c e m g K → COK P n c e m g K
  | .skip, e, m, g, K, h => COK.skip h
  | .ret, e, m, g, K, h => COK.ret h
  | .exit i, e, m, g, K, h => COK.exit h
  | .seq x y, e, m, g, K, h => COK.seq ((vcC_ok x e m g _ h).mono (thenK_mono fun e m g hh => vcC_ok y e m g K hh))
  | .block i c, e, m, g, K, h => COK.block (vcC_ok c e m g _ h)
  | .cond c x y, e, m, g, K, h => by
    simp only [vcC] at h
    split at h
    · rename_i hc
      exact COK.cond (b := true) (by simp [Env.va, hc, SV.den]) (fun _ => vcC_ok x e m g K h) (fun hb => by cases hb)
    · rename_i hc
      exact COK.cond (b := false) (by simp [Env.va, hc, SV.den]) (fun hb => by cases hb) (fun _ => vcC_ok y e m g K h)
    · rename_i b hc
      exact COK.cond (b := b) (by simp [Env.va, hc, SV.den]) (fun hb => vcC_ok x e m g K (h.t hb)) (fun hb => vcC_ok y e m g K (h.f hb))
    · exact h.elim
  | .region i ops false, e, m, g, K, h => COK.region (vcOps_ok _ e m g _ h)
  | .region i ops true, e, m, g, K, h => h
  | .loop c, e, m, g, K, h => h
  | .rangeFunc .., e, m, g, K, h => h
  | .scope c, e, m, g, K, h => h
  | .label l, e, m, g, K, h => h
  | .goto l, e, m, g, K, h => h
  | .refuse w, e, m, g, K, h => h

/-! ### results -/
def resV (P : Program) (e : Env) (m : Mem) : List ResultVar → Option (List Value)
  | [] => some []
  | .tmp t :: r => match e.va m (.tmp t), resV P e m r with
    | some v, some l => some (v :: l)
    | _, _ => none
  | .cell a t :: r => match e.get a with
    | some (.own k q) => match nth m k with
      | some ⟨b, .cells c t' fr⟩ => match aggN P t with
        | some none => match nthV c q, resV P e m r with
          | some v, some l => some (v :: l)
          | _, _ => none
        | some (some sz) => match seg c q sz, resV P e m r with
          | some s, some l => some (.agg s.toArray :: l)
          | _, _ => none
        | none => none
      | _ => none
    | _ => none
def tup : List Value → Value
  | [v] => v
  | l => .tuple l.toArray
def resOne (a : Act) : ResultVar → Sem Value
  | .tmp t => pure (a.tmps.getD t undef)
  | .cell x t => do loadVar t (← asAddr (a.tmps.getD x undef))
theorem results_eq (fn : Func) (a : Act) : results fn a.tmps = (do
    let vs ← fn.results.mapM (resOne a)
    pure (if h : vs.size = 1 then vs[0] else .tuple vs)) := by
  unfold results
  have : (fun x : ResultVar => match x with
      | .tmp t => (pure (a.tmps.getD t undef) : Sem Value)
      | .cell x t => do loadVar t (← asAddr (a.tmps.getD x undef))) = resOne a := by
    funext x; cases x <;> rfl
  rw [← this]
  rfl
theorem resV_ok {a : Act} {w : World} (ha : Agr a n e m) (hw : Has w g m) : ∀ (rs : List ResultVar) (vs : List Value), resV P e m rs = some vs →
    (rs.mapM (resOne a)).run P w = .ok vs w
  | [], vs, h => by simp [resV] at h; subst h; simp
  | .tmp t :: r, vs, h => by
    simp only [resV] at h
    split at h
    · rename_i v l h1 h2
      simp only [Option.some.injEq] at h; subst h
      have hv : a.tmps.getD t undef = v := ha.va h1
      simp only [List.mapM_cons, Sem.run_bind, Sem.run_pure, Result.andThen_ok, resOne, resV_ok ha hw r l h2, hv]
    · cases h
  | .cell x t :: r, vs, h => by
    simp only [resV] at h
    split at h
    · rename_i k q hx
      split at h
      · rename_i b c t' fr hk
        rw [nth_eq] at hk
        have hb := hw.own _ (List.mem_of_getElem? hk) _ rfl
        rw [show (Slot.mk b (.cells c t' fr)).b = b from rfl] at hb
        have hax : a.tmps.getD x undef = .pointer (some ⟨b, q, none⟩) := own_addr (x := .tmp x) ha hx hk
        split at h
        · rename_i ht
          split at h
          · rename_i v l h1 h2
            simp only [Option.some.injEq] at h; subst h
            rw [nthV_eq] at h1
            have hc : w.cell? ⟨b, q, none⟩ = some v := by
              simp only [World.cell?, hb]
              simpa using h1
            have h0 : (resOne a (.cell x t)).run P w = .ok v w := by
              simp [resOne, hax, asAddr, loadVar, aggN_none ht, Go.load, Sem.run, hc]
            simp only [List.mapM_cons, Sem.run_bind, h0, Result.andThen_ok, resV_ok ha hw r l h2, Sem.run_pure]
          · cases h
        · rename_i sz ht
          split at h
          · rename_i s l h1 h2
            simp only [Option.some.injEq] at h; subst h
            obtain ⟨l1, l2⟩ := seg_eq _ _ _ _ h1
            have hl : (loadCells ⟨b, q, none⟩ sz).run P w = .ok s.toArray w := by
              rw [← l1]
              refine run_loadCells_list (P := P) w ⟨b, q, none⟩ s fun j v hj => ?_
              rw [add_plain]
              simp only [World.cell?, hb]
              simpa using l2 j v hj
            obtain ⟨h3, h4⟩ := aggN_some ht w
            have h0 : (resOne a (.cell x t)).run P w = .ok (.agg s.toArray) w := by
              simp [resOne, hax, asAddr, loadVar, h3, h4, hl]
            simp only [List.mapM_cons, Sem.run_bind, h0, Result.andThen_ok, resV_ok ha hw r l h2, Sem.run_pure]
          · cases h
        · cases h
      · cases h
    · cases h
theorem run_results {fn : Func} {a : Act} {w : World} (ha : Agr a n e m) (hw : Has w g m) {vs : List Value} (h : resV P e m fn.results.toList = some vs) : (results fn a.tmps).run P w = .ok (tup vs) w := by
  have h1 := resV_ok ha hw fn.results.toList vs h
  rw [results_eq, ← Array.toArray_toList (xs := fn.results)]
  simp only [List.mapM_toArray, Sem.run_bind, Sem.run_map, h1, Result.andThen_ok, Sem.run_pure]
  cases vs with
  | nil => rfl
  | cons v r => cases r <;> simp [tup]

/-- The slots that came in stand at the head, block by block. -/
def extL : Mem → Mem → Prop
  | [], _ => True
  | s :: r, s' :: r' => s'.b = s.b ∧ extL r r'
  | _ :: _, [] => False
theorem extL_ok : ∀ {m m' : Mem}, extL m m' → m.ext m'
  | [], m', _ => fun k s h => by simp at h
  | x :: r, [], h => h.elim
  | x :: r, y :: r', h => fun k s hk => by
    cases k with
    | zero => rw [List.getElem?_cons_zero] at hk; obtain rfl := Option.some.inj hk; exact ⟨y, rfl, h.1⟩
    | succ k => simpa using extL_ok h.2 k s (by simpa using hk)
theorem extL_refl : ∀ (m : Mem), extL m m
  | [] => trivial
  | x :: r => ⟨rfl, extL_refl r⟩
def pickM (m : Mem) : List Nat → Option Mem
  | [] => some []
  | i :: r => match nth m i, pickM m r with
    | some s, some l => some (s :: l)
    | _, _ => none
theorem pickM_ok {m : Mem} : ∀ {is : List Nat} {M : Mem}, pickM m is = some M → is.map (fun i => m[i]?) = M.map some
  | [], M, h => by simp [pickM] at h; subst h; rfl
  | i :: r, M, h => by
    simp only [pickM] at h
    split at h
    · rename_i s l h1 h2
      simp only [Option.some.injEq] at h; subst h
      rw [nth_eq] at h1
      simp [h1, pickM_ok h2]
    · cases h
theorem pickM_of {m : Mem} : ∀ {is : List Nat} {M : Mem}, is.map (fun i => m[i]?) = M.map some → pickM m is = some M
  | [], M, h => by cases M with | nil => rfl | cons => simp at h
  | i :: r, M, h => by
    cases M with
    | nil => simp at h
    | cons s M =>
      simp only [List.map_cons, List.cons.injEq] at h
      simp [pickM, nth_eq, h.1, pickM_of h.2]
theorem pick_range (m : Mem) : pickM m (List.range m.length) = some m := pickM_of (by
  apply List.ext_getElem?
  intro i
  by_cases hi : i < m.length
  · simp [hi]
  · simp [hi])
/-- A function's end; 'is': the slots that are handed back. -/
inductive ERet (P : Program) (rs : List ResultVar) (ow : Mem) (R : Value → GH → Mem → Prop) (e : Env) : Mem → GH → Prop where
  | mk {m : Mem} {g : GH} (out : ∃ (vs : List Value) (is : List Nat) (M : Mem), resV P e m rs = some vs ∧ is.Nodup ∧ pickM m is = some M ∧ extL ow M ∧ R (tup vs) g M) : ERet P rs ow R e m g
  | freeze {m : Mem} {g : GH} (k : Nat) {s : Slot} (hk : m[k]? = some s) {ob : Obj} (hs : s.o.ob = some ob) (h : ∀ g', g.le g' → g' s.b = some ob → ERet P rs ow R e (m.set k ⟨s.b, .dead⟩) g') : ERet P rs ow R e m g
theorem ERet.ok {fn : Func} {ow : Mem} {R : Value → GH → Mem → Prop} {e : Env} {m : Mem} {g : GH} (h : ERet P fn.results.toList ow R e m g) :
    ∀ (a : Act) (w : World), Agr a n e m → Has w g m → ∃ v g'' M, (results fn a.tmps).run P w = .ok v w ∧ R v g'' M ∧ ow.ext M ∧ Has w g'' M ∧ Fr w m g w M g'' := by
  induction h with
  | mk out =>
    rename_i m0 g0
    intro a w ha hw
    obtain ⟨vs, is, M, h1, h2, h3, h4, h5⟩ := out
    have hsub : SX.Sub e m0 [] M is := ⟨h2, pickM_ok h3, fun t x hx => by simp [Env.get] at hx⟩
    exact ⟨tup vs, g0, M, run_results ha hw h1, h5, extL_ok h4, hw.sub_ hsub, Fr.sub hsub⟩
  | freeze k hk hs h ih =>
    intro a w ha hw
    have h1 := hw.freeze hk hs
    have h2 := Fr.freeze hw hk hs
    obtain ⟨v, g'', M, k1, k2, k3, k4, k5⟩ := ih _ h2.le (by simp) a w (ha.ext (Mem.ext_set hk rfl)) h1
    exact ⟨v, g'', M, k1, k2, k3, k4, h2.trans k5⟩
def retK (P : Program) (rs : List ResultVar) (ow : Mem) (R : Value → GH → Mem → Prop) : KK
  | .normal, e, m, g => ERet P rs ow R e m g
  | .ret, e, m, g => ERet P rs ow R e m g
  | _, _, _, _ => False
/-- A contract from what is left to show of the body. -/
theorem TriE.cok {X : List PanicEntry → Prop} {k : Nat} {f : FuncId} {fn : Func} {c : Code} {args : List Value} (svs : List SV) {ow : Mem} {R : Value → GH → Mem → Prop}
    (hf : P.funcs[f]? = some fn) (hb : fn.body = some c) (hn : fn.ntmps = k) (hl : Nat.ble args.length k = true) (hs : svs.map (SV.den ow) = args.map some) (h : COK P ⟨k, [], X⟩ c (zipEnv 0 svs) ow g (retK P fn.results.toList ow R)) :
    TriE P f args g ow X R := by
  subst hn
  refine TriE.intro svs hf hb (Nat.le_of_ble_eq_true hl) hs h ?_
  intro x e m g' a w hx ha hw
  cases x <;> first | exact hx.elim | skip
  · exact ⟨.inl rfl, ERet.ok hx a w ha hw⟩
  · exact ⟨.inr rfl, ERet.ok hx a w ha hw⟩
theorem TriE.vc {X : List PanicEntry → Prop} {k : Nat} {f : FuncId} {fn : Func} {c : Code} {args : List Value} (svs : List SV) {ow : Mem} {R : Value → GH → Mem → Prop}
    (hf : P.funcs[f]? = some fn) (hb : fn.body = some c) (hn : fn.ntmps = k) (hl : Nat.ble args.length k = true) (hs : svs.map (SV.den ow) = args.map some) (h : vcC P ⟨k, [], X⟩ c (zipEnv 0 svs) ow g (retK P fn.results.toList ow R)) :
    TriE P f args g ow X R := .cok svs hf hb hn hl hs (vcC_ok _ _ _ _ _ h)
theorem Tri.cok {k : Nat} {f : FuncId} {fn : Func} {c : Code} {args : List Value} (svs : List SV) {ow : Mem} {R : Value → GH → Mem → Prop}
    (hf : P.funcs[f]? = some fn) (hb : fn.body = some c) (hn : fn.ntmps = k) (hl : Nat.ble args.length k = true) (hs : svs.map (SV.den ow) = args.map some) (h : COK P ⟨k, [], fun _ => False⟩ c (zipEnv 0 svs) ow g (retK P fn.results.toList ow R)) :
    Tri P f args g ow R := (TriE.cok svs hf hb hn hl hs h).tri fun _ h => h
theorem Tri.vc {k : Nat} {f : FuncId} {fn : Func} {c : Code} {args : List Value} (svs : List SV) {ow : Mem} {R : Value → GH → Mem → Prop}
    (hf : P.funcs[f]? = some fn) (hb : fn.body = some c) (hn : fn.ntmps = k) (hl : Nat.ble args.length k = true) (hs : svs.map (SV.den ow) = args.map some) (h : vcC P ⟨k, [], fun _ => False⟩ c (zipEnv 0 svs) ow g (retK P fn.results.toList ow R)) :
    Tri P f args g ow R := .cok svs hf hb hn hl hs (vcC_ok _ _ _ _ _ h)
end
end Go.SX
