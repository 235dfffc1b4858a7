/- WholeStores: the changes of Open, one by one. -/
import Derived.Test.YtkkefknmahnjnaaSJapp3
set_option linter.unusedVariables false
set_option linter.unusedSimpArgs false
set_option maxRecDepth 100000
namespace Go.SX
open Go
theorem OOK.appendRowN {P : Program} {n : Nat} {o : Oper} {e : Env} {m : Mem} {g : GH} {α : Type} {enc : α → List Value} {l : List α} (y : List α) (i : Nat) {sl : Slot} {A : Option Addr} {c : Nat} {K : Env → Mem → GH → Prop} {t u el : TypeId} {s x : Operand} {inf : TypeInfo} {z : List Value} {xv : Value} {size bytes : Nat} (hs0 : ∀ x, (enc x).length = size)
    (hop : o.op = .call ⟨.builtin .append, #[s, x], #[t, u]⟩) (hs : e.va m s = some (.slice A l.length c)) (hx : e.va m x = some xv)
    (ht : P.underlying t = some (.slice el)) (hu : (∃ e, P.underlying u = some (.slice e)) ∨ P.underlying u = some .string) (hi : P.info? el = some inf) (hsz : inf.size = size) (hbt : inf.bytes = bytes) (hz : zeroL P el = some z) (hb0 : bytes ≠ 0) (hzs : z.length = size)
    (hm : m[i]? = some sl) (ho : OwnAt el size enc l sl A c) (hsrc : Src P g m xv y.length size (y.flatMap enc)) (h1 : ∀ v ∈ y.flatMap enc, v.oneCell' = true) (hroom : (2 * (l.length + y.length) + 1000) * bytes ≤ 281474976710656) (hy : 0 < y.length)
    (hk : ∀ s' A' c', OwnAt el size enc (l ++ y) s' A' c' →
      setF m i ⟨sl.b, .dead⟩ fun m => snoc m s' 0 fun _ m => putK n o.dst (.val (.slice A' (l.length + y.length) c')) e fun e => K e m g) : OOK P n o e m g K := by
  cases ho with
  | nil b h0 =>
    subst h0
    refine OOK.appendNew (old := []) (ys := y.flatMap enc) (k := y.length) hop hs hx ht hu hi hsz hbt hz hb0 hzs Src.nil' (by simp) (flat_len hs0 y) (by show 0 < 0 + y.length; omega) hsrc hroom ?_
    intro b' c' rest h2 h3
    have := hk ⟨b', .cells ((([] : List α) ++ y).flatMap enc ++ rest) el (0, 0)⟩ (some ⟨b', 0, none⟩) c' (.own b' c' rest (by simpa using h3) (by simpa using h2))
    have hset : ∀ (L : Mem) (k : Nat), L[k]? = some ⟨b, .dead⟩ → setM L k ⟨b, .dead⟩ = some L := by
      intro L
      induction L with
      | nil => intro k hk; simp at hk
      | cons a r ih =>
        intro k hk
        cases k with
        | zero => simp at hk; subst hk; rfl
        | succ k => simp at hk; simp [setM, ih k hk]
    unfold setF at this
    rw [hset m i hm] at this
    simpa using this
  | own b c rest h2 h3 =>
    refine OOK.appendOwn (old := l.flatMap enc) (ys := y.flatMap enc) (k := y.length) i hop hs hx ht hu hi hsz hbt hz hb0 hzs hm ?_ ?_ h2 (flat_len hs0 y) hsrc h1 hroom ?_
    · rw [← flat_len hs0 l, List.take_left' rfl]
    · exact flat_len hs0 l
    · intro b' c' rest' h4 h5 _
      exact hk ⟨b', .cells (l.flatMap enc ++ y.flatMap enc ++ rest') el (0, 0)⟩ (some ⟨b', 0, none⟩) c' (by
        have : l.flatMap enc ++ y.flatMap enc = (l ++ y).flatMap enc := by simp
        rw [this]
        exact .own b' c' rest' (by rw [← this]; exact h5) (by simpa using h4))
/-- The same as Tri.vc, part by part. -/
theorem Tri.cok {P : Program} {n : Nat} {f : FuncId} {fn : Func} {c : Code} {args : List Value} {g : GH} (svs : List SV) {ow : Mem} {R : Value → GH → Mem → Prop}
    (hf : P.funcs[f]? = some fn) (hb : fn.body = some c) (hn : fn.ntmps = n) (hl : Nat.ble args.length n = true) (hs : svs.map (SV.den ow) = args.map some) (h : COK P n c (zipEnv 0 svs) ow g (retK P fn.results.toList ow R)) :
    Tri P f args g ow R := by
  subst hn
  refine Tri.intro svs hf hb (Nat.le_of_ble_eq_true hl) hs h ?_
  intro x e m g' a w hx ha hw
  cases x <;> first | exact hx.elim | skip
  · exact ⟨.inl rfl, ERet.ok hx a w ha hw⟩
  · exact ⟨.inr rfl, ERet.ok hx a w ha hw⟩
end Go.SX
namespace Go.Proofs.Ytkkefknmahnjnaa
open Go Go.SX

/-- A disk that performs any number of changes. -/
structure Al (d : Dk) : Prop where
  st : d.stopped = false
  fz : d.fused = false
  z : Fz d
def AlF (l : List UInt8) (s : Nat) (d : Dk) (g : GH) : Prop := Al d ∧ LogF g d l s
def AlN (l : List UInt8) (s : Nat) (l' : List UInt8) (s' : Nat) (d : Dk) (g : GH) : Prop := Al d ∧ LogN g d l s l' s'
def Al0 (d : Dk) (g : GH) : Prop := Al d ∧ d.fs = []
/-- One change: what it needs, what it leaves. -/
def Stp (g : GH) (x : Slot) (db mb : Nat) (c : Clo) (P Q : Dk → GH → Prop) : Prop :=
  ∀ d g1, g.le g1 → P d g1 → calleeOk Try.prog c.1 = true ∧ Tri Try.prog c.1 c.2.toList g1 (M3 x db mb d) fun v g' m' => ∃ d', v = .int .i64 0 ∧ m' = M3 x db mb d' ∧ Q d' g'
theorem steps_all (g : GH) (x : Slot) (db mb : Nat) (C : Option Addr) (e : Nat) (cl : List Clo) (Ps : List (Dk → GH → Prop)) (d : Dk) (hC : Row g encC C cl) (hl : cl.length ≤ 1000) (hPl : Ps.length = cl.length + 1)
    (h : ∀ i c P Q, cl[i]? = some c → Ps[i]? = some P → Ps[i + 1]? = some Q → Stp g x db mb c P Q) (P0 Q0 : Dk → GH → Prop) (hP0 : Ps[0]? = some P0) (hQ0 : Ps[cl.length]? = some Q0) (h0 : P0 d g) :
    Tri Try.prog 46 [.slice C cl.length e] g (M3 x db mb d) fun v g' m' => ∃ d', v = .int .i64 0 ∧ m' = M3 x db mb d' ∧ Q0 d' g' := by
  refine (f_steps (σ := Dk) g C e cl (fun d => M3 x db mb d) (fun i d g => ∃ P, Ps[i]? = some P ∧ P d g) (fun _ _ _ => False) d hC hl (fun d => ⟨rfl, rfl, rfl, trivial⟩) (fun d => rfl) ?_ ⟨P0, hP0, h0⟩).mono ?_
  · rintro i d1 g1 f cap hg1 ⟨P, hP, hPd⟩ hx
    have hi : i < cl.length := (List.getElem?_eq_some_iff.1 hx).1
    obtain ⟨Q, hQ⟩ : ∃ Q, Ps[i + 1]? = some Q := ⟨_, List.getElem?_eq_getElem (by omega)⟩
    obtain ⟨h1, h2⟩ := h i _ P Q hx hP hQ d1 g1 hg1 hPd
    refine ⟨h1, h2.mono ?_⟩
    rintro v g' m' hg' ⟨d', rfl, rfl, hq⟩
    exact ⟨0, d', rfl, rfl, .inl ⟨rfl, Q, hQ, hq⟩⟩
  · rintro v g' m' hg' ⟨cd, d', rfl, rfl, ⟨rfl, P, hP, hPd⟩ | ⟨_, hf⟩⟩
    · rw [hQ0] at hP
      obtain rfl := Option.some.inj hP
      exact ⟨d', rfl, rfl, hPd⟩
    · exact hf.elim
/-- A change of a disk that stops at none. -/
theorem out_al {x : Slot} {db mb : Nat} {d : Dk} {Post : Dk → GH → Prop} {v : Value} {g' : GH} {m' : Mem} (ha : Al d) (h : Out3 x db mb d Post v g' m') :
    ∃ d2, Al d2 ∧ v = .int .i64 0 ∧ m' = M3 x db mb d2 ∧ Post d2 g' := by
  rcases h with ⟨k1, k2, rfl, rfl⟩ | ⟨k1, rfl, d2, k2, k3, k4, k5, rfl⟩
  · rw [ha.fz] at k1; cases k1
  · rw [ha.fz, if_neg (by decide)] at k4
    exact ⟨d2, ⟨k2.trans ha.st, k3.trans ha.fz, ⟨by rw [k4]; exact ha.z.lo, by rw [k4]; exact ha.z.hi⟩⟩, rfl, rfl, k5⟩
theorem fok0 {g : GH} {d : Dk} (h : d.fs = []) : Fok g d := by
  have hm : ∀ e ∈ d.fs, False := fun e he => by rw [h] at he; simp at he
  exact ⟨.inl h, fun e he => (hm e he).elim, fun e he => (hm e he).elim, fun e he => (hm e he).elim, fun e he => (hm e he).elim, fun e he => (hm e he).elim⟩
def cO1 (bx bn : Nat) : Clo := (42, #[.pointer (some ⟨bx, 0, none⟩), .pointer (some ⟨bn, 0, none⟩)])
def cO2 (bx bn : Nat) : Clo := (44, #[.pointer (some ⟨bx, 0, none⟩), .pointer (some ⟨bn, 0, none⟩)])
def cO3 (bx bn : Nat) : Clo := (45, #[.pointer (some ⟨bx, 0, none⟩), .pointer (some ⟨bn, 0, none⟩)])
section
variable {g : GH} {x : Slot} {db mb bx bn : Nat}
theorem s_o1 (hx : Bx g bx (.pointer (some ⟨db, 0, none⟩))) (hn : Bx g bn (.string kLog)) (l : List UInt8) (s : Nat) (l' : List UInt8) (s' : Nat) : Stp g x db mb (cO1 bx bn) (AlN l s l' s') (AlF l s) := by
  rintro d g1 hg1 ⟨ha, hl⟩
  obtain ⟨f, hf, _⟩ := hl.get
  refine ⟨by kernel_rfl, (f_o1 g1 x db mb bx bn d (hx.mono hg1) (hn.mono hg1) f hf ha.z ha.st).mono fun v g' m' hg' hO => ?_⟩
  obtain ⟨d2, ha2, rfl, rfl, k1, k2⟩ := out_al ha hO
  exact ⟨d2, rfl, rfl, ha2, rem_new (hl.mono hg') k1 k2⟩
theorem s_o2 (hx : Bx g bx (.pointer (some ⟨db, 0, none⟩))) (hn : Bx g bn (.string kLog)) : Stp g x db mb (cO2 bx bn) Al0 (AlF [] 0) := by
  rintro d g1 hg1 ⟨ha, hl⟩
  refine ⟨by kernel_rfl, (f_o2 g1 x db mb bx bn d (hx.mono hg1) (hn.mono hg1) (fok0 hl) ha.z ha.st).mono fun v g' m' hg' hO => ?_⟩
  obtain ⟨d2, ha2, rfl, rfl, k1⟩ := out_al ha hO
  exact ⟨d2, rfl, rfl, ha2, app_first (g := g) hl k1⟩
theorem s_o3 (hx : Bx g bx (.pointer (some ⟨db, 0, none⟩))) (hn : Bx g bn (.string kLog)) (l : List UInt8) (s : Nat) : Stp g x db mb (cO3 bx bn) (AlF l s) (AlF l l.length) := by
  rintro d g1 hg1 ⟨ha, hl⟩
  obtain ⟨f, hf, _⟩ := hl.get
  refine ⟨by kernel_rfl, (f_o3 g1 x db mb bx bn d (hx.mono hg1) (hn.mono hg1) f hf ha.z ha.st).mono fun v g' m' hg' hO => ?_⟩
  obtain ⟨d2, ha2, rfl, rfl, k1⟩ := out_al ha hO
  exact ⟨d2, rfl, rfl, ha2, sync_log (hl.mono hg') hf k1⟩
theorem s_r1 {bo bb : Nat} (hx : Bx g bx (.pointer (some ⟨db, 0, none⟩))) (ho : Bx g bo (.string kNew)) (B : Option Addr) (cb : Nat) (b : List UInt8) (hb : Bx g bb (.slice B b.length cb)) (hB : Row g encB B b) (hbl : b.length ≤ 20000) (l : List UInt8) (s : Nat) :
    Stp g x db mb (49, #[.pointer (some ⟨bx, 0, none⟩), .pointer (some ⟨bo, 0, none⟩), .pointer (some ⟨bb, 0, none⟩)]) (AlF l s) (AlN l s b 0) := by
  rintro d g1 hg1 ⟨ha, hl⟩
  refine ⟨by kernel_rfl, (f_r1 g1 x db mb bx bo bb d (hx.mono hg1) (ho.mono hg1) B cb b (hb.mono hg1) (hB.mono hg1) hbl hl.fok ha.z ha.st).mono fun v g' m' hg' hO => ?_⟩
  obtain ⟨d2, ha2, rfl, rfl, k1⟩ := out_al ha hO
  exact ⟨d2, rfl, rfl, ha2, app_new hl hg' k1 hbl⟩
theorem s_r2 {bo : Nat} (hx : Bx g bx (.pointer (some ⟨db, 0, none⟩))) (ho : Bx g bo (.string kNew)) (b l : List UInt8) (s s' : Nat) :
    Stp g x db mb (50, #[.pointer (some ⟨bx, 0, none⟩), .pointer (some ⟨bo, 0, none⟩)]) (AlN l s b s') (AlN l s b b.length) := by
  rintro d g1 hg1 ⟨ha, hl⟩
  obtain ⟨f, hf, _⟩ := hl.get
  refine ⟨by kernel_rfl, (f_r2 g1 x db mb bx bo d (hx.mono hg1) (ho.mono hg1) f hf ha.z ha.st).mono fun v g' m' hg' hO => ?_⟩
  obtain ⟨d2, ha2, rfl, rfl, k1⟩ := out_al ha hO
  exact ⟨d2, rfl, rfl, ha2, sync_new (hl.mono hg') hf k1⟩
theorem s_r3 {bo bn' : Nat} (hx : Bx g bx (.pointer (some ⟨db, 0, none⟩))) (ho : Bx g bo (.string kNew)) (hn : Bx g bn' (.string kLog)) (b l : List UInt8) (s s' : Nat) :
    Stp g x db mb (51, #[.pointer (some ⟨bx, 0, none⟩), .pointer (some ⟨bo, 0, none⟩), .pointer (some ⟨bn', 0, none⟩)]) (AlN l s b s') (AlF b s') := by
  rintro d g1 hg1 ⟨ha, hl⟩
  obtain ⟨f, hf, _⟩ := hl.get
  refine ⟨by kernel_rfl, (f_r3 g1 x db mb bx bo bn' d (hx.mono hg1) (ho.mono hg1) (hn.mono hg1) f hf ha.z ha.st).mono fun v g' m' hg' hO => ?_⟩
  obtain ⟨d2, ha2, rfl, rfl, k1, k2⟩ := out_al ha hO
  exact ⟨d2, rfl, rfl, ha2, ren_new (hl.mono hg') hf k1 k2⟩
end
/-- What Open is to do: without a file; with one that is whole; with one that is to be cut short; each with another file beside it. -/
def Todo (g : GH) (db : Nat) (bx bn : Nat) (b tail : List UInt8) (cl2 : List Clo) (P0 : Dk → GH → Prop) : Prop :=
  (P0 = Al0 ∧ b = [] ∧ cl2 = [cO2 bx bn]) ∨
  (tail = [] ∧ (∃ s, P0 = AlF b s) ∧ cl2 = [cO3 bx bn]) ∨
  ((∃ l s, P0 = AlF l s) ∧ b.length ≤ 20000 ∧ ∃ bx' bo bn' bb B cb, cl2 = repl bx' bo bn' bb ∧ Bx g bx' (.pointer (some ⟨db, 0, none⟩)) ∧ Bx g bo (.string kNew) ∧ Bx g bn' (.string kLog) ∧ Bx g bb (.slice B b.length cb) ∧ Row g encB B b)
theorem steps_todo (g : GH) (x : Slot) (db mb : Nat) (bx bn : Nat) (hx : Bx g bx (.pointer (some ⟨db, 0, none⟩))) (hn : Bx g bn (.string kLog)) (C : Option Addr) (e : Nat) (cl1 cl2 : List Clo) (b tail : List UInt8) (d : Dk) (P0 P1 : Dk → GH → Prop)
    (h2 : Todo g db bx bn b tail cl2 P1) (h1 : (cl1 = [] ∧ P0 = P1) ∨ (cl1 = [cO1 bx bn] ∧ ∃ l s l' s', P0 = AlN l s l' s' ∧ P1 = AlF l s)) (hC : Row g encC C (cl1 ++ cl2)) (h0 : P0 d g) :
    Tri Try.prog 46 [.slice C (cl1 ++ cl2).length e] g (M3 x db mb d) fun v g' m' => ∃ d', v = .int .i64 0 ∧ m' = M3 x db mb d' ∧ AlF b b.length d' g' := by
  obtain ⟨Ps2, e1, e2, e3, e4⟩ : ∃ Ps2 : List (Dk → GH → Prop), Ps2.length = cl2.length ∧ cl2.length ≤ 10 ∧ (∀ i c P Q, cl2[i]? = some c → (P1 :: Ps2)[i]? = some P → (P1 :: Ps2)[i + 1]? = some Q → Stp g x db mb c P Q) ∧ (P1 :: Ps2)[cl2.length]? = some (AlF b b.length) := by
    rcases h2 with ⟨rfl, rfl, rfl⟩ | ⟨rfl, ⟨s, rfl⟩, rfl⟩ | ⟨⟨l, s, rfl⟩, hbl, bx', bo, bn', bb, B, cb, rfl, k1, k2, k3, k4, k5⟩
    · refine ⟨[AlF [] 0], rfl, by simp, fun i c P Q q1 q2 q3 => ?_, rfl⟩
      match i, q1, q2, q3 with
      | 0, q1, q2, q3 =>
        obtain rfl := Option.some.inj q1; obtain rfl := Option.some.inj q2; obtain rfl := Option.some.inj q3
        exact s_o2 hx hn
    · refine ⟨[AlF b b.length], rfl, by simp, fun i c P Q q1 q2 q3 => ?_, rfl⟩
      match i, q1, q2, q3 with
      | 0, q1, q2, q3 =>
        obtain rfl := Option.some.inj q1; obtain rfl := Option.some.inj q2; obtain rfl := Option.some.inj q3
        exact s_o3 hx hn b s
    · refine ⟨[AlN l s b 0, AlN l s b b.length, AlF b b.length], rfl, by simp [repl], fun i c P Q q1 q2 q3 => ?_, rfl⟩
      match i, q1, q2, q3 with
      | 0, q1, q2, q3 =>
        obtain rfl := Option.some.inj q1; obtain rfl := Option.some.inj q2; obtain rfl := Option.some.inj q3
        exact s_r1 k1 k2 B cb b k4 k5 hbl l s
      | 1, q1, q2, q3 =>
        obtain rfl := Option.some.inj q1; obtain rfl := Option.some.inj q2; obtain rfl := Option.some.inj q3
        exact s_r2 k1 k2 b l s 0
      | 2, q1, q2, q3 =>
        obtain rfl := Option.some.inj q1; obtain rfl := Option.some.inj q2; obtain rfl := Option.some.inj q3
        exact s_r3 k1 k2 k3 b l s b.length
  rcases h1 with ⟨rfl, rfl⟩ | ⟨rfl, l, s, l', s', rfl, rfl⟩
  · exact steps_all g x db mb C e cl2 (P0 :: Ps2) d hC (by omega) (by simp [e1]) e3 P0 _ rfl e4 h0
  · refine steps_all g x db mb C e (cO1 bx bn :: cl2) (AlN l s l' s' :: AlF l s :: Ps2) d hC (by simp; omega) (by simp [e1]) (fun i c P Q q1 q2 q3 => ?_) (AlN l s l' s') _ rfl e4 h0
    cases i with
    | zero =>
      obtain rfl := Option.some.inj q1; obtain rfl := Option.some.inj q2; obtain rfl := Option.some.inj q3
      exact s_o1 hx hn l s l' s'
    | succ i => exact e3 i c P Q q1 q2 q3
end Go.Proofs.Ytkkefknmahnjnaa
