/- WholeStores: the frame of a record. -/
import Derived.Test.YtkkefknmahnjnaaSHead
set_option linter.unusedVariables false
set_option linter.unusedSimpArgs false
set_option maxRecDepth 100000
namespace Go.Proofs.Ytkkefknmahnjnaa
open Go Go.SX

theorem OOK.append0 {P : Program} {n : Nat} {o : Oper} {e : Env} {m : Mem} {g : GH} {K : Env → Mem → GH → Prop} {t u el : TypeId} {s x : Operand} {inf : TypeInfo} {A : Option Addr} {sn sc : Nat} {xv : Value}
    (hop : o.op = .call ⟨.builtin .append, #[s, x], #[t, u]⟩) (hs : e.va m s = some (.slice A sn sc)) (hx : e.va m x = some xv)
    (ht : P.underlying t = some (.slice el)) (hu : (∃ e, P.underlying u = some (.slice e)) ∨ P.underlying u = some .string) (hi : P.info? el = some inf)
    (hsrc : Src P g m xv 0 inf.size []) (hle : sn ≤ sc) (hk : putK n o.dst (.val (.slice A sn sc)) e fun e => K e m g) : OOK P n o e m g K := by
  refine OOK.val (s := .val (.slice A sn sc)) rfl (fun a w ha hw => ?_) hk
  obtain ⟨l1, l2⟩ := hsrc w hw
  have : (Builtin.append_ #[t, u] o.type #[.slice A sn sc, xv]).run P w = .ok (.slice A sn sc) w := by
    rcases hu with ⟨e', hu⟩ | hu
    all_goals
      cases A <;> simp [Builtin.append_, run_underlying ht, run_underlying hu, run_size hi, l1, l2, storeCells, hle]
  simp [execOp, hop, resolve, invoke, builtin, ha.va hs, ha.va hx, this]
/-- A slice of an array that a pointer tells: all of it, its head, its tail. -/
theorem YN.sliceArr {P : Program} {n : Nat} {o : Oper} {e : Env} {m : Mem} {g : GH} {K : SV → Prop} {t el : TypeId} {x : Operand} {lo hi : Option Operand} {b q N : Nat} {inf : TypeInfo} (l h : Nat)
    (hop : o.op = .slice t x lo hi none) (hx : e.va m x = some (.pointer (some ⟨b, q, none⟩))) (ht : P.underlying t = some (.array N el)) (hi' : P.info? el = some inf) {size : Nat} (hsz : inf.size = size)
    (hlo : (lo = none ∧ l = 0) ∨ (∃ y, lo = some y ∧ e.va m y = some (.int .i64 l))) (hhi : (hi = none ∧ h = N) ∨ (∃ y, hi = some y ∧ e.va m y = some (.int .i64 h))) (h1 : l ≤ h) (h2 : h ≤ N) (h3 : l < N)
    (hk : K (.val (.slice (some ⟨b, q + l * size, none⟩) (h - l) (N - l)))) : YN P n o e m g K := by
  subst hsz
  refine YN.mk' (.val (.slice (some ⟨b, q + l * inf.size, none⟩) (h - l) (N - l))) (fun a ha => ⟨_, rfl, fun w hw => ?_⟩) hk
  have hb : ∀ (k y : Nat) (c : BoundsCode), k ≤ y → (Instr.sliceBound (.int .i64 k) y c).run P w = .ok k w := by
    intro k y c hky
    unfold Instr.sliceBound
    simp [asIntOf, hky]
  have hne : ¬ (N = l) := by omega
  have hsure : (Instr.sureAddr (.pointer (some ⟨b, q, none⟩))).run P w = .ok ⟨b, q, none⟩ w := by simp [Instr.sureAddr]
  have fin : (Result.ok (Next.value (.slice (some (if N = l then (⟨b, q, none⟩ : Addr) else (⟨b, q, none⟩ : Addr).add (l * inf.size))) (h - l) (N - l))) w : Result Next) = .ok (.value (.slice (some ⟨b, q + l * inf.size, none⟩) (h - l) (N - l))) w := by
    rw [if_neg hne, add_plain]
  rcases hlo with ⟨rfl, rfl⟩ | ⟨y, rfl, hy⟩ <;> rcases hhi with ⟨rfl, rfl⟩ | ⟨z, rfl, hz⟩
  · simp only [execOp, hop, ha.va hx, Instr.sliceAt, Sem.run_bind, run_underlying ht, Result.andThen_ok, Instr.sliceBounds, Option.map_none, Sem.run_pure, hsure, run_size hi']
    exact fin
  · have hb1 := hb h N .sliceAlen h2
    simp only [execOp, hop, ha.va hx, Instr.sliceAt, Sem.run_bind, run_underlying ht, Result.andThen_ok, Instr.sliceBounds, Option.map_none, Option.map_some, Sem.run_pure, hsure, run_size hi', ha.va hz, hb1, Bool.false_eq_true, if_false]
    exact fin
  · have hb1 := hb l h .sliceB h1
    simp only [execOp, hop, ha.va hx, Instr.sliceAt, Sem.run_bind, run_underlying ht, Result.andThen_ok, Instr.sliceBounds, Option.map_none, Option.map_some, Sem.run_pure, hsure, run_size hi', ha.va hy, hb1, Option.isSome_none, Bool.false_eq_true, if_false]
    exact fin
  · have hb1 := hb h N .sliceAlen h2
    have hb2 := hb l h .sliceB h1
    simp only [execOp, hop, ha.va hx, Instr.sliceAt, Sem.run_bind, run_underlying ht, Result.andThen_ok, Instr.sliceBounds, Option.map_none, Option.map_some, Sem.run_pure, hsure, run_size hi', ha.va hy, ha.va hz, hb1, hb2, Option.isSome_none, Bool.false_eq_true, if_false]
    exact fin
def frameL (l : List UInt8) : List UInt8 := headL l.length (crcF l) ++ l
theorem f_frame (g : GH) (A : Option Addr) (c : Nat) (l : List UInt8) (hA : Row g encB A l) (hl : l.length ≤ 100000) :
    Tri Try.prog 29 [.slice A l.length c] g [] fun v g' m' => m' = [] ∧ ∃ A' c', v = .slice A' (frameL l).length c' ∧ Row g' encB A' (frameL l) := by
  refine Tri.vc [.val (.slice A l.length c)] Try.func29 rfl Try.ntmps29 rfl rfl ?_
  conv => whnf
  refine OOK.call [] rfl rfl rfl (by kernel_rfl) rfl (f_crc g A c l hA hl) (by decide) rfl ?_
  rintro v_ g1 m_ hg1 ⟨rfl, rfl⟩
  conv => whnf
  refine OOK.call [] rfl rfl rfl (by kernel_rfl) rfl (f_header g1 l.length (crcF l) (by omega) (by omega) (crcF_rng l).1 (crcF_rng l).2) (by decide) rfl ?_
  rintro v_ g2 m_ hg2 ⟨rfl, rfl⟩
  conv => whnf
  intro b
  conv => whnf
  refine OOK.yn (YN.sliceArr (b := b) (q := 0) (N := 8) 0 8 rfl rfl rfl rfl (size := 1) rfl (.inl ⟨rfl, rfl⟩) (.inl ⟨rfl, rfl⟩) (by decide) (by decide) (by decide) ?_)
  conv => whnf
  by_cases h0 : l = []
  · subst h0
    refine OOK.append0 (A := some ⟨b, 0, none⟩) (sn := 8) (sc := 8) rfl rfl rfl rfl (.inl ⟨_, rfl⟩) rfl Src.nil' (by decide) ?_
    conv => whnf
    refine .freeze 0 rfl rfl fun g4 hg4 hb4 => ?_
    refine .mk ⟨_, [], _, rfl, by decide, rfl, trivial, rfl, some ⟨b, 0, none⟩, 8, rfl, ?_⟩
    exact row_of (rest := []) (el := 83) hb4
  · have hpos : 0 < l.length := List.length_pos_iff.2 h0
    refine OOK.appendNew (A := some ⟨b, 0, none⟩) (sn := 8) (sc := 8) (old := (headL l.length (crcF l)).flatMap encB) (ys := l.flatMap encB) (k := l.length) rfl rfl rfl rfl (.inl ⟨_, rfl⟩) rfl (size := 1) (bytes := 1) rfl rfl rfl (by decide) rfl
      (Src.own (i := 0) (q := 0) rfl rfl (fun j v hj => by rw [Nat.zero_add]; exact hj)) rfl (flat_len encB_len l) (by omega) ?_ (by omega) ?_
    · obtain ⟨a, ha, hr⟩ := hA h0
      subst ha
      exact Src.reads (flat_len encB_len l) (hr.mono (hg1.trans hg2))
    intro b' c' rest hle hlc
    conv => whnf
    refine .freeze 1 rfl rfl fun g4 hg4 hb4 => ?_
    refine .mk ⟨_, [], _, rfl, by decide, rfl, trivial, rfl, some ⟨b', 0, none⟩, c', ?_, ?_⟩
    · show tup [Value.slice _ (8 + l.length) _] = _
      unfold frameL
      rw [List.length_append]
      rfl
    · refine row_of (rest := rest) (el := 5) ?_
      unfold frameL
      rw [List.flatMap_append]
      exact hb4
end Go.Proofs.Ytkkefknmahnjnaa
