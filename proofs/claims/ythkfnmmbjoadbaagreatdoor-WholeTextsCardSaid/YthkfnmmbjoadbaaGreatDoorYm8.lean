/- WholeTexts: the laying of strconv.Atoi, in plain words (printed by lay.py). -/
import Derived.Shelf.Strconv.AtoiAll
import Derived.Test.YthkfnmmbjoadbaaGreatDoorProg
import Derived.Test.YthkfnmmbjoadbaaGreatDoorYm7
import Derived.Lib.AtoiErrMem
import Derived.Lib.ByteType
set_option maxRecDepth 100000
namespace Go.Proofs
open Go.Shelf
def Tryz.atoiC_ren : Go.Shelf.Ren := ⟨fun | 172 => 106 | 244 => 123 | 245 => 124 | 247 => 146 | 279 => 147 | 280 => 148 | 281 => 149 | 282 => 150 | 287 => 161 | 316 => 162 | 171 => 45 | 205 => 163 | 321 => 167 | 322 => 168 | 243 => 81 | 246 => 112 | 283 => 131 | 284 => 132 | 285 => 133 | 286 => 134 | 129 => 145 | 317 => 152 | 318 => 153 | 319 => 154 | 320 => 155 | 337 => 164 | 338 => 165 | n => n, fun | 9 => 9 | 3 => 3 | 75 => 104 | 76 => 105 | 4 => 4 | 5 => 5 | 167 => 151 | 37 => 22 | 0 => 0 | 85 => 152 | 2 => 2 | 168 => 154 | 53 => 51 | 175 => 168 | 46 => 60 | 210 => 171 | 127 => 122 | 145 => 179 | 143 => 177 | 21 => 21 | 171 => 136 | 173 => 139 | 212 => 159 | 51 => 150 | 20 => 20 | 213 => 160 | 232 => 180 | 233 => 181 | 80 => 35 | n => n, fun | 15 => 2 | 16 => 3 | 17 => 1 | 18 => 4 | 19 => 5 | n => n⟩
theorem Tryz.atoiC : LaysC.n172 Tryz.prog Tryz.atoiC_ren := {
  mixed := by kernel_rfl,
  f129 := Tryz.func145.trans (congrArg some (by kernel_rfl)),
  f171 := Tryz.func45.trans (congrArg some (by kernel_rfl)),
  f172 := Tryz.func106.trans (congrArg some (by kernel_rfl)),
  f205 := Tryz.func163.trans (congrArg some (by kernel_rfl)),
  f243 := Tryz.func81.trans (congrArg some (by kernel_rfl)),
  f244 := Tryz.func123.trans (congrArg some (by kernel_rfl)),
  f245 := Tryz.func124.trans (congrArg some (by kernel_rfl)),
  f246 := Tryz.func112.trans (congrArg some (by kernel_rfl)),
  f247 := Tryz.func146.trans (congrArg some (by kernel_rfl)),
  f279 := Tryz.func147.trans (congrArg some (by kernel_rfl)),
  f280 := Tryz.func148.trans (congrArg some (by kernel_rfl)),
  f281 := Tryz.func149.trans (congrArg some (by kernel_rfl)),
  f282 := Tryz.func150.trans (congrArg some (by kernel_rfl)),
  f283 := Tryz.func131.trans (congrArg some (by kernel_rfl)),
  f284 := Tryz.func132.trans (congrArg some (by kernel_rfl)),
  f285 := Tryz.func133.trans (congrArg some (by kernel_rfl)),
  f286 := Tryz.func134.trans (congrArg some (by kernel_rfl)),
  f287 := Tryz.func161.trans (congrArg some (by kernel_rfl)),
  f316 := Tryz.func162.trans (congrArg some (by kernel_rfl)),
  f317 := Tryz.func152.trans (congrArg some (by kernel_rfl)),
  f318 := Tryz.func153.trans (congrArg some (by kernel_rfl)),
  f319 := Tryz.func154.trans (congrArg some (by kernel_rfl)),
  f320 := Tryz.func155.trans (congrArg some (by kernel_rfl)),
  f321 := Tryz.func167.trans (congrArg some (by kernel_rfl)),
  f322 := Tryz.func168.trans (congrArg some (by kernel_rfl)),
  f337 := Tryz.func164.trans (congrArg some (by kernel_rfl)),
  f338 := Tryz.func165.trans (congrArg some (by kernel_rfl)),
  t0 := Tryz.underlying0,
  a0 := Tryz.isAgg0,
  z0 := Tryz.sizeOf0,
  v0 := Tryz.zeroValue0,
  t2 := Tryz.underlying2,
  a2 := Tryz.isAgg2,
  z2 := Tryz.sizeOf2,
  v2 := Tryz.zeroValue2,
  t3 := Tryz.underlying3,
  a3 := Tryz.isAgg3,
  z3 := Tryz.sizeOf3,
  v3 := Tryz.zeroValue3,
  t4 := Tryz.underlying4,
  a4 := Tryz.isAgg4,
  z4 := Tryz.sizeOf4,
  v4 := Tryz.zeroValue4,
  t5 := Tryz.underlying5,
  a5 := Tryz.isAgg5,
  z5 := Tryz.sizeOf5,
  v5 := Tryz.zeroValue5,
  t9 := Tryz.underlying9,
  a9 := Tryz.isAgg9,
  z9 := Tryz.sizeOf9,
  v9 := Tryz.zeroValue9,
  t20 := Tryz.underlying20,
  a20 := Tryz.isAgg20,
  z20 := Tryz.sizeOf20,
  v20 := Tryz.zeroValue20,
  t21 := Tryz.underlying21,
  a21 := Tryz.isAgg21,
  z21 := Tryz.sizeOf21,
  v21 := Tryz.zeroValue21,
  t37 := Tryz.underlying22,
  a37 := Tryz.isAgg22,
  z37 := Tryz.sizeOf22,
  v37 := Tryz.zeroValue22,
  t46 := Tryz.underlying60,
  a46 := Tryz.isAgg60,
  z46 := Tryz.sizeOf60,
  v46 := Tryz.zeroValue60,
  t51 := Tryz.underlying150,
  a51 := Tryz.isAgg150,
  z51 := Tryz.sizeOf150,
  v51 := Tryz.zeroValue150,
  t53 := Tryz.underlying51,
  a53 := Tryz.isAgg51,
  z53 := Tryz.sizeOf51,
  v53 := Tryz.zeroValue51,
  t75 := Tryz.underlying104,
  a75 := Tryz.isAgg104,
  z75 := Tryz.sizeOf104,
  v75 := Tryz.zeroValue104,
  t76 := Tryz.underlying105,
  a76 := Tryz.isAgg105,
  z76 := Tryz.sizeOf105,
  v76 := Tryz.zeroValue105,
  t85 := Tryz.underlying152,
  a85 := Tryz.isAgg152,
  z85 := Tryz.sizeOf152,
  v85 := Tryz.zeroValue152,
  t127 := Tryz.underlying122,
  a127 := Tryz.isAgg122,
  z127 := Tryz.sizeOf122,
  v127 := Tryz.zeroValue122,
  t143 := Tryz.underlying177,
  a143 := Tryz.isAgg177,
  z143 := Tryz.sizeOf177,
  v143 := Tryz.zeroValue177,
  t145 := Tryz.underlying179,
  a145 := Tryz.isAgg179,
  z145 := Tryz.sizeOf179,
  v145 := Tryz.zeroValue179,
  t167 := Tryz.underlying151,
  a167 := Tryz.isAgg151,
  z167 := Tryz.sizeOf151,
  v167 := Tryz.zeroValue151,
  t168 := Tryz.underlying154,
  a168 := Tryz.isAgg154,
  z168 := Tryz.sizeOf154,
  v168 := Tryz.zeroValue154,
  t171 := Tryz.underlying136,
  a171 := Tryz.isAgg136,
  z171 := Tryz.sizeOf136,
  v171 := Tryz.zeroValue136,
  t173 := Tryz.underlying139,
  a173 := Tryz.isAgg139,
  z173 := Tryz.sizeOf139,
  v173 := Tryz.zeroValue139,
  t175 := Tryz.underlying168,
  a175 := Tryz.isAgg168,
  z175 := Tryz.sizeOf168,
  v175 := Tryz.zeroValue168,
  t210 := Tryz.underlying171,
  a210 := Tryz.isAgg171,
  z210 := Tryz.sizeOf171,
  v210 := Tryz.zeroValue171,
  t212 := Tryz.underlying159,
  a212 := Tryz.isAgg159,
  z212 := Tryz.sizeOf159,
  v212 := Tryz.zeroValue159,
  t213 := Tryz.underlying160,
  a213 := Tryz.isAgg160,
  z213 := Tryz.sizeOf160,
  t232 := Tryz.underlying180,
  a232 := Tryz.isAgg180,
  z232 := Tryz.sizeOf180,
  v232 := Tryz.zeroValue180,
  t233 := Tryz.underlying181,
  a233 := Tryz.isAgg181,
  z233 := Tryz.sizeOf181,
  v233 := Tryz.zeroValue181,
  g15 := by kernel_rfl,
  g16 := by kernel_rfl,
  g17 := by kernel_rfl,
  g18 := by kernel_rfl,
  g19 := by kernel_rfl,
  t80 := Tryz.underlying35,
  a80 := Tryz.isAgg35,
  z80 := Tryz.sizeOf35,
  v80 := Tryz.zeroValue35,
  i0 := by kernel_rfl,
  i2 := by kernel_rfl,
  i3 := by kernel_rfl,
  i4 := by kernel_rfl,
  i5 := by kernel_rfl,
  i9 := by kernel_rfl,
  i20 := by kernel_rfl,
  i21 := by kernel_rfl,
  i37 := by kernel_rfl,
  i46 := by kernel_rfl,
  i51 := by kernel_rfl,
  i53 := by kernel_rfl,
  i75 := by kernel_rfl,
  i76 := by kernel_rfl,
  i80 := by kernel_rfl,
  i85 := by kernel_rfl,
  i127 := by kernel_rfl,
  i143 := by kernel_rfl,
  i145 := by kernel_rfl,
  i167 := by kernel_rfl,
  i168 := by kernel_rfl,
  i171 := by kernel_rfl,
  i173 := by kernel_rfl,
  i175 := by kernel_rfl,
  i210 := by kernel_rfl,
  i212 := by kernel_rfl,
  i232 := by kernel_rfl,
  i233 := by kernel_rfl,
  m15 := by kernel_rfl,
  m16 := by kernel_rfl,
  m17 := by kernel_rfl,
  m18 := by kernel_rfl,
  m19 := by kernel_rfl,
  c0 := by kernel_rfl,
  c2 := by kernel_rfl,
  c3 := by kernel_rfl,
  c4 := by kernel_rfl,
  c5 := by kernel_rfl,
  c9 := by kernel_rfl,
  c20 := by kernel_rfl,
  c21 := by kernel_rfl,
  c37 := by kernel_rfl,
  c46 := by kernel_rfl,
  c51 := by kernel_rfl,
  c53 := by kernel_rfl,
  c75 := by kernel_rfl,
  c76 := by kernel_rfl,
  c80 := by kernel_rfl,
  c85 := by kernel_rfl,
  c127 := by kernel_rfl,
  c143 := by kernel_rfl,
  c145 := by kernel_rfl,
  c167 := by kernel_rfl,
  c168 := by kernel_rfl,
  c171 := by kernel_rfl,
  c173 := by kernel_rfl,
  c175 := by kernel_rfl,
  c210 := by kernel_rfl,
  c212 := by kernel_rfl,
  c213 := by kernel_rfl,
  c232 := by kernel_rfl,
  c233 := by kernel_rfl }
end Go.Proofs
/- WholeTexts: the parser's integers, walked. -/
set_option linter.unusedVariables false
set_option linter.unusedSimpArgs false
set_option maxRecDepth 100000
namespace Go.Proofs.YthkfnmmbjoadbaaGreatDoor
open Go Go.SX

theorem _root_.Go.SX.OOK.neqNil {P : Program} {n : Cfg} {o : Oper} {e : Env} {m : Mem} {g : GH} {K : Env → Mem → GH → Prop} {t u : TypeId} {x : Operand} {c : Value} {ms : Array (String × TypeId)} (hop : o.op = .binOp .neq t x (.const c) u) (hx : e.va m x = some .nilIface) (hy : e.va m (.const c) = some .nilIface)
    (ht : P.underlying t = some (.interface ms)) (h : putK n o.dst (.val (.bool false)) e fun e => K e m g) : OOK P n o e m g K := by
  refine OOK.val rfl (fun ac w ha hw => ?_) h
  have h1 := Lib.run_neq_nil_nil (P := P) w ht
  have h2 : (eqGuard .neq t x (.const c) .nilIface .nilIface).run P w = .ok () w := by
    unfold eqGuard
    simp only [Bool.not_true, Bool.false_eq_true, if_false, Bool.or_true, if_true]
    rfl
  simp only [execOp, hop, ha.va hx, ha.va hy, Sem.run_bind, h2, Result.andThen_ok, h1, Sem.run_pure]
theorem f_atoi (g : GH) (l : List UInt8) (v : Int) (hl : l.length ≤ 100000) (h : Lib.atoiAll l = .ok v) : Tri Tryz.prog 106 [.string (str l)] g [] fun r g' m' => r = .tuple #[.int .i64 v, .nilIface] ∧ m' = [] := by
  intro w hw
  have hd : (str l).data.toList = l := rfl
  refine (Any.strconv_Atoi_ok Tryz.atoiC (str l) (by rw [str_size]; omega) v (by rw [hd]; exact h) w).mono ?_
  rintro e w' ⟨rfl, hw'⟩
  have hB : Go.RowKit.Below w.heap.size w w' := by
    rcases hw' with rfl | ⟨t, rfl⟩
    · exact ⟨rfl, rfl, rfl, Nat.le_refl _, fun j hj => rfl⟩
    · exact Lib.bytesWorld_below w _ _
  exact ⟨_, g, [], rfl, ⟨rfl, rfl⟩, .refl _, (hw.below hB).1, (hw.below hB).2⟩
theorem str_ext (s : List UInt8) (a b : Nat) (h : b ≤ s.length) : (str s).extract a b = str ((s.drop a).take (b - a)) := by
  apply ByteArray.ext
  rw [ByteArray.data_extract]
  show s.toArray.extract a b = _
  simp [str, List.extract_toArray, List.extract_eq_take_drop]
theorem f_vint (g : GH) (n : Int) : Tri Tryz.prog 107 [.int .i64 n] g [] fun v g' m' => m' = [] ∧ v = (Val.mk 2 n [] [] none 0 [] none 0).val := by
  refine Tri.vc [.val (.int .i64 n)] Tryz.func107 rfl Tryz.ntmps107 rfl rfl ?_
  conv => whnf
  intro b
  conv => whnf
  exact .mk ⟨_, [], _, rfl, by decide, rfl, trivial, rfl, rfl⟩
theorem f_vnull (g : GH) : Tri Tryz.prog 64 [] g [] fun v g' m' => m' = [] ∧ v = (Val.mk 0 0 [] [] none 0 [] none 0).val := by
  refine Tri.vc [] Tryz.func64 rfl Tryz.ntmps64 rfl rfl ?_
  conv => whnf
  intro b
  conv => whnf
  exact .mk ⟨_, [], _, rfl, by decide, rfl, trivial, rfl, rfl⟩
theorem f_vtxt (g : GH) (s : List UInt8) : Tri Tryz.prog 66 [.string (str s)] g [] fun v g' m' => m' = [] ∧ v = (Val.mk 3 0 s [] none 0 [] none 0).val := by
  refine Tri.vc [.val (.string (str s))] Tryz.func66 rfl Tryz.ntmps66 rfl rfl ?_
  conv => whnf
  intro b
  conv => whnf
  exact .mk ⟨_, [], _, rfl, by decide, rfl, trivial, rfl, rfl⟩
theorem f_vbool (g : GH) (t : Bool) : Tri Tryz.prog 65 [.bool t] g [] fun v g' m' => m' = [] ∧ v = (Val.mk 1 (if t then 1 else 0) [] [] none 0 [] none 0).val := by
  refine Tri.vc [.val (.bool t)] Tryz.func65 rfl Tryz.ntmps65 rfl rfl ?_
  conv => whnf
  intro b
  conv => whnf
  refine ⟨fun q => ?_, fun q => ?_⟩
  · conv => whnf
    subst q
    exact .mk ⟨_, [], _, rfl, by decide, rfl, trivial, rfl, rfl⟩
  · conv => whnf
    subst q
    exact .mk ⟨_, [], _, rfl, by decide, rfl, trivial, rfl, rfl⟩
def digN (s : List UInt8) (q : Nat) : Nat := ((s.drop q).takeWhile isDigit).length
theorem dig_in {s : List UInt8} {q j : Nat} {c : UInt8} (hj : j < digN s q) (h : s[q + j]? = some c) : isDigit c = true := by
  unfold digN at hj
  have h1 : ((s.drop q).takeWhile isDigit)[j]? = some c := by
    have hpre := (List.takeWhile_prefix isDigit (l := s.drop q))
    have hd : (s.drop q)[j]? = some c := by rw [List.getElem?_drop, h]
    obtain ⟨h3, h4⟩ := List.getElem?_eq_some_iff.1 hd
    rw [List.getElem?_eq_getElem hj, hpre.getElem hj, h4]
  have h2 := List.mem_of_getElem? h1
  exact List.all_eq_true.1 (List.all_takeWhile) _ h2
theorem dig_out {s : List UInt8} {q : Nat} {c : UInt8} (h : s[q + digN s q]? = some c) : isDigit c = false := by
  have h1 : (s.drop q).dropWhile isDigit = s.drop (q + digN s q) := by
    have h2 := List.takeWhile_append_dropWhile (p := isDigit) (l := s.drop q)
    have h3 : (s.drop q).drop (digN s q) = (s.drop q).dropWhile isDigit := by
      conv => lhs; rw [← h2]
      exact List.drop_left
    rw [← h3, List.drop_drop]
  rw [drop_cons h] at h1
  have := List.head?_dropWhile_not isDigit (s.drop q)
  rw [h1] at this
  simpa using this
theorem f_integer (g : GH) (b : Nat) (s : List UInt8) (p cnt : Nat) (hs : s.length ≤ 100000) (hp : p < s.length) (hne : intP s p ≠ .stuck) : TriE Tryz.prog 70 [.pointer (some ⟨b, 0, none⟩)] g [prS b s p cnt] (XS s (intP s p)) fun v g' m' => ∃ x, intP s p = .ok x ∧ v = (Val.mk 2 x.1 [] [] none 0 [] none 0).val ∧ m' = [prS b s x.2 cnt] := by
  obtain ⟨W, hW⟩ : ∃ W, W = intP s p := ⟨_, rfl⟩
  rw [← hW] at hne ⊢
  unfold intP at hW
  refine TriE.cok [.own 0 0] Tryz.func70 rfl Tryz.ntmps70 rfl rfl ?_
  refine COK.seq (vcC_ok _ _ _ _ _ ?_)
  conv => whnf
  intro b2
  conv => whnf
  refine COK.seq (vcC_ok _ _ _ _ _ ?_)
  conv => whnf
  obtain ⟨F, hF⟩ : ∃ F : Nat → Out (Int × Nat), F = fun q => (peekP s q).bind fun d => if isDigit d = false then .stuck else if d = 48 ∧ 1 < digN s q then .stuck else
      match Lib.atoiAll ((s.drop p).take (q + digN s q - p)) with
      | .ok v => .ok (v, q + digN s q)
      | _ => .stuck := ⟨_, rfl⟩
  have hW : W = (peekP s p).bind fun c => (if c = 45 then (peekP s (p + 1)).bind fun d => if d = 48 then .stuck else .ok (p + 1) else .ok p).bind F := by rw [hF]; exact hW
  have e1 : IntKind.i64.wrap ((p : Int) + 1) = ((p + 1 : Nat) : Int) := i64_in (by omega) (by omega)
  refine COK.seq (COK.cut (α := Nat) (fun q => [(0, .own 0 0), (2, .own 1 0), (3, .val (.int .i64 p))]) (fun q => [prS b s q cnt, ⟨b2, .cells [.int .i64 0, .int .i64 0, .string ⟨#[]⟩, .slice none 0 0, .slice none 0 0] 28 (0, 0)⟩]) (fun q _ => W = F q ∧ p ≤ q ∧ q ≤ s.length) ?_ ?_)
  · refine vcC_ok _ _ _ _ _ ?_
    conv => whnf
    refine OOK.callE [0] rfl rfl rfl (by kernel_rfl) rfl (f_peek g b s p cnt hs) (by decide) rfl (fun ch h => ⟨by rw [hW, h.1]; rfl, h.2⟩) ?_
    rintro v_ g1 m_ hg1 ⟨c, hc, rfl, rfl⟩
    conv => whnf
    rw [hc, Out.ok_bind] at hW
    refine ⟨fun q => ?_, fun q => ?_⟩
    · rw [if_pos (u8k (k := 45) (eq_of_beq q))] at hW
      conv => whnf
      rw [e1]
      refine OOK.callE [0] rfl rfl rfl (by kernel_rfl) rfl (f_peek g1 b s (p + 1) cnt hs) (by decide) rfl (fun ch h => ⟨by rw [hW, h.1]; rfl, h.2⟩) ?_
      rintro v_ g2 m_ hg2 ⟨d, hd, rfl, rfl⟩
      conv => whnf
      have hl := (peek_ok hd).2
      rw [hd, Out.ok_bind] at hW
      have h48 : d ≠ 48 := fun h => by rw [if_pos h] at hW; exact hne hW
      rw [if_neg h48, Out.ok_bind] at hW
      refine ⟨fun q => absurd (u8k (k := 48) (eq_of_beq q)) h48, fun _ => ?_⟩
      conv => whnf
      exact ⟨p + 1, [0, 1], Sub.of (by decide) rfl ⟨rfl, rfl, rfl, trivial⟩, hW, by omega, by omega⟩
    · rw [if_neg (fun h : c = 45 => by rw [h] at q; cases q), Out.ok_bind] at hW
      conv => whnf
      exact ⟨p, [0, 1], Sub.of (by decide) rfl ⟨rfl, rfl, rfl, trivial⟩, hW, by omega, by omega⟩
  rintro q g3 hg3 ⟨hW, hpq, hql⟩
  subst hF
  simp only [] at hW
  refine vcC_ok _ _ _ _ _ ?_
  conv => whnf
  refine OOK.callE [0] rfl rfl rfl (by kernel_rfl) rfl (f_peek g3 b s q cnt hs) (by decide) rfl (fun ch h => ⟨by rw [hW, h.1]; rfl, h.2⟩) ?_
  rintro v_ g4 m_ hg4 ⟨d, hd, rfl, rfl⟩
  conv => whnf
  obtain ⟨hdq, hl⟩ := peek_ok hd
  rw [hd, Out.ok_bind] at hW
  refine OOK.call [] rfl rfl rfl (by kernel_rfl) rfl (f_digit g4 d) (by decide) rfl ?_
  rintro v_ g5 m_ hg5 ⟨rfl, rfl⟩
  conv => whnf
  have hdig : isDigit d = true := by
    cases h : isDigit d with
    | true => rfl
    | false => rw [if_pos h] at hW; exact absurd hW hne
  rw [if_neg (by simp [hdig])] at hW
  have hz : ¬ (d = 48 ∧ 1 < digN s q) := fun h => by rw [if_pos h] at hW; exact hne hW
  rw [if_neg hz] at hW
  rw [hdig]
  refine ⟨(by intro q; cases q), fun _ => ?_⟩
  conv => whnf
  obtain ⟨n, hn⟩ : ∃ n, n = digN s q := ⟨_, rfl⟩
  rw [← hn] at hW hz
  have hnl : q + n ≤ s.length := by
    have h1 := (List.takeWhile_prefix isDigit (l := s.drop q)).length_le
    rw [List.length_drop] at h1
    have h2 : n = ((s.drop q).takeWhile isDigit).length := hn
    omega
  refine COK.loop (α := Nat) (fun j => [(0, .own 0 0), (2, .own 1 0), (3, .val (.int .i64 p)), (4, .val (.int .i64 q))]) (fun j => [prS b s (q + j) cnt, ⟨b2, .cells [.int .i64 0, .int .i64 0, .string ⟨#[]⟩, .slice none 0 0, .slice none 0 0] 28 (0, 0)⟩]) (fun j _ => j ≤ n) (fun j => n - j) 0 [0, 1] (Sub.of (by decide) rfl ⟨rfl, rfl, rfl, rfl, trivial⟩) (Nat.zero_le _) ?_
  intro j g6 hg6 hj
  refine vcC_ok _ _ _ _ _ ?_
  conv => whnf
  refine COK.draw [0] (by kernel_rfl) (by kernel_rfl) ?_
  conv => whnf
  rw [str_size]
  cases hc : s[q + j]? with
  | none =>
    have hlq : s.length ≤ q + j := List.getElem?_eq_none_iff.1 hc
    refine ⟨fun h1 => absurd (of_decide_eq_true h1) (by omega), fun _ => ?_⟩
    conv => whnf
    have hjn : j = n := by omega
    subst hjn
    refine COK.draw [0] (by kernel_rfl) (by kernel_rfl) ?_
    conv => whnf
    refine ⟨⟨by first | omega | (rw [str_size]; omega), by first | omega | (rw [str_size]; omega), by first | omega | (rw [str_size]; omega)⟩, ?_⟩
    conv => whnf
    rw [show (p : Int).toNat = p from rfl, show ((q + j : Nat) : Int).toNat = q + j from rfl, str_ext s p (q + j) hnl]
    rcases hv : Lib.atoiAll ((s.drop p).take (q + j - p)) with v | _ | _
    rotate_left
    · rw [hv] at hW; exact absurd hW hne
    · rw [hv] at hW; exact absurd hW hne
    · skip
      rw [hv] at hW
      refine OOK.call [] rfl rfl rfl (by kernel_rfl) rfl (f_atoi g6 _ v (by rw [List.length_take, List.length_drop]; omega) hv) (by decide) rfl ?_
      rintro v_ g8 m_ hg8 ⟨rfl, rfl⟩
      conv => whnf
      refine ⟨⟨rfl, rfl, trivial⟩, ?_⟩
      conv => whnf
      refine OOK.neqNil rfl rfl rfl rfl ?_
      conv => whnf
      refine ⟨(by intro q; cases q), fun _ => ?_⟩
      conv => whnf
      refine OOK.call [] rfl rfl rfl (by kernel_rfl) rfl (f_vint g8 v) (by decide) rfl ?_
      rintro v_ g9 m_ hg9 ⟨rfl, rfl⟩
      conv => whnf
      exact .mk ⟨_, [0], _, rfl, by decide, rfl, ⟨rfl, trivial⟩, _, hW, rfl, rfl⟩
  | some c =>
    have hlq : q + j < s.length := (List.getElem?_eq_some_iff.1 hc).1
    refine ⟨fun _ => ?_, fun h1 => absurd (of_decide_eq_false h1) (by omega)⟩
    conv => whnf
    refine ⟨⟨by omega, by rw [str_size]; omega⟩, ?_⟩
    conv => whnf
    rw [byteAt_str (i := ((q + j : Nat) : Int).toNat) hc]
    refine OOK.call [] rfl rfl rfl (by kernel_rfl) rfl (f_digit g6 c) (by decide) rfl ?_
    rintro v_ g7 m_ hg7 ⟨rfl, rfl⟩
    conv => whnf
    refine ⟨⟨rfl, rfl, trivial⟩, ?_⟩
    conv => whnf
    cases hb : isDigit c with
    | true =>
      have hjl : j < n := by
        apply Nat.lt_of_le_of_ne hj
        intro h
        subst h
        rw [hn] at hc
        rw [dig_out hc] at hb
        cases hb
      refine ⟨fun _ => ?_, (by intro q; cases q)⟩
      conv => whnf
      have e3 : IntKind.i64.wrap ((q : Int) + 1) = ((q + 1 : Nat) : Int) := i64_in (by omega) (by omega)
      have e4 : IntKind.i64.wrap (((q + j : Nat) : Int) + 1) = ((q + (j + 1) : Nat) : Int) := i64_in (by omega) (by omega)
      rw [e3]
      by_cases hj1 : j = 1
      · refine ⟨fun _ => ?_, fun q => absurd q (by simp [hj1])⟩
        conv => whnf
        refine ⟨⟨by omega, by rw [str_size]; omega⟩, ?_⟩
        conv => whnf
        rw [byteAt_str (i := (q : Int).toNat) hdq]
        refine ⟨fun h => absurd ⟨u8k (k := 48) (eq_of_beq h), by omega⟩ hz, fun _ => ?_⟩
        conv => whnf
        rw [e4]
        exact ⟨j + 1, [0, 1], Sub.of (by decide) rfl ⟨rfl, rfl, rfl, rfl, trivial⟩, hjl, by omega⟩
      · refine ⟨fun h => absurd (eq_of_beq h) (by omega), fun _ => ?_⟩
        conv => whnf
        rw [e4]
        exact ⟨j + 1, [0, 1], Sub.of (by decide) rfl ⟨rfl, rfl, rfl, rfl, trivial⟩, hjl, by omega⟩
    | false =>
      refine ⟨(by intro q; cases q), fun _ => ?_⟩
      conv => whnf
      have hjn : j = n := by
        apply Nat.le_antisymm hj
        apply Nat.le_of_not_lt
        intro h
        rw [hn] at h
        rw [dig_in h hc] at hb
        cases hb
      subst hjn
      refine COK.draw [0] (by kernel_rfl) (by kernel_rfl) ?_
      conv => whnf
      refine ⟨⟨by first | omega | (rw [str_size]; omega), by first | omega | (rw [str_size]; omega), by first | omega | (rw [str_size]; omega)⟩, ?_⟩
      conv => whnf
      rw [show (p : Int).toNat = p from rfl, show ((q + j : Nat) : Int).toNat = q + j from rfl, str_ext s p (q + j) hnl]
      rcases hv : Lib.atoiAll ((s.drop p).take (q + j - p)) with v | _ | _
      rotate_left
      · rw [hv] at hW; exact absurd hW hne
      · rw [hv] at hW; exact absurd hW hne
      · skip
        rw [hv] at hW
        refine OOK.call [] rfl rfl rfl (by kernel_rfl) rfl (f_atoi g7 _ v (by rw [List.length_take, List.length_drop]; omega) hv) (by decide) rfl ?_
        rintro v_ g8 m_ hg8 ⟨rfl, rfl⟩
        conv => whnf
        refine ⟨⟨rfl, rfl, trivial⟩, ?_⟩
        conv => whnf
        refine OOK.neqNil rfl rfl rfl rfl ?_
        conv => whnf
        refine ⟨(by intro q; cases q), fun _ => ?_⟩
        conv => whnf
        refine OOK.call [] rfl rfl rfl (by kernel_rfl) rfl (f_vint g8 v) (by decide) rfl ?_
        rintro v_ g9 m_ hg9 ⟨rfl, rfl⟩
        conv => whnf
        exact .mk ⟨_, [0], _, rfl, by decide, rfl, ⟨rfl, trivial⟩, _, hW, rfl, rfl⟩
end Go.Proofs.YthkfnmmbjoadbaaGreatDoor
/- WholeTexts: the parser's lists, walked. -/
set_option linter.unusedVariables false
set_option linter.unusedSimpArgs false
set_option maxRecDepth 100000
namespace Go.Proofs.YthkfnmmbjoadbaaGreatDoor
open Go Go.SX

/-- What the parser's value does, at one depth. -/
def ValC (b : Nat) (s : List UInt8) (f : Nat) (dep : Int) (g0 : GH) : Prop := ∀ (g : GH) (p cnt : Nat), g0.le g → p ≤ s.length → cnt ≤ 1000 → valP f s p cnt ≠ .stuck →
  TriE Tryz.prog 34 [.pointer (some ⟨b, 0, none⟩), .int .i64 dep] g [prS b s p cnt] (XS s (valP f s p cnt)) fun v g' m' => ∃ (y : Val) (x : T × Nat × Nat), valP f s p cnt = .ok x ∧ x.1 = y.t ∧ v = y.val ∧ y.Ok g' ∧ m' = [prS b s x.2.1 x.2.2]
structure Ls5 where
  more : Bool
  p : Nat
  cnt : Nat
  f : Nat
  ys : List Val
  s : Slot
  A : Option Addr
  c : Nat
theorem f_listP (g : GH) (b : Nat) (s : List UInt8) (f : Nat) (dep : Int) (hV : ValC b s f (dep + 1) g) (p cnt : Nat) (hs : s.length ≤ 100000) (hp : p < s.length) (hc : cnt ≤ 1000) (hd : 0 ≤ dep ∧ dep ≤ 100) (W : Out (T × Nat × Nat))
    (hW : W = (emptyP s 93 p).bind fun e => if e.1 then .ok (.mk 4 0 [] [] [], e.2, cnt) else (lstP (valP f s) s (s.length + 1) e.2 cnt []).bind fun l => .ok (.mk 4 0 [] l.1 [], l.2.1, l.2.2)) (hne : W ≠ .stuck) :
    TriE Tryz.prog 68 [.pointer (some ⟨b, 0, none⟩), .int .i64 dep] g [prS b s p cnt] (XS s W) fun v g' m' => ∃ (y : Val) (x : T × Nat × Nat), W = .ok x ∧ x.1 = y.t ∧ v = y.val ∧ y.Ok g' ∧ m' = [prS b s x.2.1 x.2.2] := by
  refine TriE.cok [.own 0 0, .val (.int .i64 dep)] Tryz.func68 rfl Tryz.ntmps68 rfl rfl ?_
  refine COK.dummy 0 ?_
  refine vcC_ok _ _ _ _ _ ?_
  conv => whnf
  intro b4
  conv => whnf
  intro b5
  conv => whnf
  refine OOK.callE [0] rfl rfl rfl (by kernel_rfl) rfl (f_empty g b s 93 p cnt hs (by omega)) (by decide) rfl (fun ch h => ⟨by rw [hW, h.1]; rfl, h.2⟩) ?_
  rintro v_ g1 m_ hg1 ⟨e, he, rfl, rfl⟩
  conv => whnf
  have hel := empty_ok he
  rw [he, Out.ok_bind] at hW
  have hdep : IntKind.i64.wrap (dep + 1) = dep + 1 := i64_in (by omega) (by omega)
  refine COK.loop (α := Ls5) (fun y => [(0, .own 0 0), (1, .val (.int .i64 dep)), (4, .own 2 0), (5, .own 3 0), (6, .val (.bool y.more))])
    (fun y => [prS b s y.p y.cnt, y.s, ⟨b4, .cells [.int .i64 0, .int .i64 0, .string ⟨#[]⟩, .slice none 0 0, .slice none 0 0] 28 (0, 0)⟩, ⟨b5, .cells [.int .i64 4, .int .i64 0, .string ⟨#[]⟩, .slice y.A y.ys.length y.c, .slice none 0 0] 28 (0, 0)⟩])
    (fun y g' => OwnAt 28 5 Val.cells y.ys y.s y.A y.c ∧ (∀ z ∈ y.ys, z.Ok g') ∧ y.ys.length ≤ y.cnt ∧ y.cnt ≤ 1000 ∧ y.p ≤ s.length ∧ W = (if y.more then (lstP (valP f s) s y.f y.p y.cnt (y.ys.map Val.t)).bind fun l => .ok (.mk 4 0 [] l.1 [], l.2.1, l.2.2) else .ok (.mk 4 0 [] (y.ys.map Val.t) [], y.p, y.cnt)) ∧ (y.more = true → s.length < y.p + y.f))
    (fun y => y.f) ⟨!e.1, e.2, cnt, s.length + 1, [], ⟨0, .dead⟩, none, 0⟩ [0, 1, 2, 3] (Sub.of (by decide) rfl ⟨rfl, rfl, rfl, rfl, rfl, trivial⟩) ⟨.nil 0 rfl, (fun z hz => by cases hz), Nat.zero_le _, hc, hel.2, by rw [hW]; cases e.1 <;> rfl, fun _ => by show _ < e.2 + (_ + 1); omega⟩ ?_
  rintro ⟨more, p1, cnt1, f1, ys, sl, A, c⟩ g6 hg6 ⟨hO, hyo0, hyl, hc1, hp1, hW, hf⟩
  dsimp only at hO hyo0 hyl hc1 hp1 hW hf ⊢
  have hg06 := hg1.trans hg6
  cases more with
  | true =>
    rw [if_pos rfl] at hW
    have hf := hf rfl
    obtain ⟨f1, rfl⟩ : ∃ x, f1 = x + 1 := ⟨f1 - 1, by omega⟩
    rw [lstP] at hW
    have hVs : valP f s p1 cnt1 ≠ .stuck := fun h => hne (by rw [hW, h]; rfl)
    have fin : ∀ (mm : Bool × Nat) (x : T × Nat × Nat), W = ((if mm.1 then lstP (valP f s) s f1 mm.2 x.2.2 (ys.map Val.t ++ [x.1]) else .ok (ys.map Val.t ++ [x.1], mm.2, x.2.2)) : Out (List T × Nat × Nat)).bind (fun l => .ok (.mk 4 0 [] l.1 [], l.2.1, l.2.2)) → mm.2 ≤ s.length → (p1 < x.2.1 ∧ x.2.1 ≤ s.length ∧ cnt1 < x.2.2 ∧ x.2.2 ≤ 1000) → ∀ (Y : Val) (g7 g9 : GH), g6.le g7 → g7.le g9 → x.1 = Y.t → Y.Ok g7 → ∀ {sV' vA' vc'}, OwnAt 28 5 Val.cells (ys ++ [Y]) sV' vA' vc' → p1 < mm.2 →
        OwnAt 28 5 Val.cells (ys ++ [Y]) sV' vA' vc' ∧ (∀ z ∈ ys ++ [Y], z.Ok g9) ∧ (ys ++ [Y]).length ≤ x.2.2 ∧ x.2.2 ≤ 1000 ∧ mm.2 ≤ s.length ∧ W = (if mm.1 then (lstP (valP f s) s f1 mm.2 x.2.2 ((ys ++ [Y]).map Val.t)).bind fun l => .ok (.mk 4 0 [] l.1 [], l.2.1, l.2.2) else .ok (.mk 4 0 [] ((ys ++ [Y]).map Val.t) [], mm.2, x.2.2)) ∧ (mm.1 = true → s.length < mm.2 + f1) := by
      intro mm x hW hml hx Y g7 g9 h7 h9 hxt hY sV' vA' vc' hO' hpm
      refine ⟨hO', fun z hz => ?_, by rw [List.length_append]; show ys.length + 1 ≤ _; omega, hx.2.2.2, hml, ?_, fun _ => by omega⟩
      · rcases List.mem_append.1 hz with hz | hz
        · exact (hyo0 z hz).mono (h7.trans h9)
        · obtain rfl := List.mem_singleton.1 hz
          exact hY.mono h9
      · have e2 : (ys ++ [Y]).map Val.t = ys.map Val.t ++ [x.1] := by rw [List.map_append, hxt]; rfl
        rw [e2, hW]
        cases mm.1 <;> rfl
    have ey : ∀ Y : Val, ys.length + 1 = (ys ++ [Y]).length := fun Y => by rw [List.length_append]; rfl
    refine vcC_ok _ _ _ _ _ ?_
    conv => whnf
    refine ⟨fun _ => ?_, (by intro q; cases q)⟩
    conv => whnf
    refine COK.drawL [1] [] (by kernel_rfl) (by kernel_rfl) ?_
    conv => whnf
    rw [hdep]
    refine OAnd.mk ?_ ?_
    · conv => whnf
      conv => whnf
      refine OAnd.mk ⟨rfl, rfl, rfl, rfl, trivial⟩ ?_
      conv => whnf
      refine OOK.callE [0] rfl rfl rfl (by kernel_rfl) rfl (hV g6 p1 cnt1 hg06 hp1 hc1 hVs) (by decide) rfl (fun ch h => ⟨by rw [hW, h.1]; rfl, h.2⟩) ?_
      rintro v_ g7 m_ hg7 ⟨⟨yk, yi, yt, yl, yA, yc, yks, yB, yd⟩, x, hx, hxt, rfl, hyo, rfl⟩
      conv => whnf
      refine OAnd.mk ⟨rfl, rfl, rfl, rfl, trivial⟩ ?_
      conv => whnf
      intro bv
      conv => whnf
      refine OAnd.mk ⟨rfl, rfl, rfl, rfl, trivial⟩ ?_
      conv => whnf
      refine OOK.appendRowB (Val.mk yk yi yt yl yA yc yks yB yd) 1 Val.len rfl rfl rfl rfl (.inl ⟨_, rfl⟩) rfl (size := 5) (bytes := 80) rfl rfl rfl (by decide) rfl rfl hO (Src.own (i := 4) (q := 0) rfl rfl (fun j v hj => by rw [Nat.zero_add]; exact hj)) (Val.one _) (by omega) ?_
      intro sV' vA' vc' hO'
      conv => whnf
      refine OAnd.mk ⟨rfl, rfl, rfl, rfl, trivial⟩ ?_
      conv => whnf
      rw [ey (Val.mk yk yi yt yl yA yc yks yB yd)]
      refine OAnd.mk ⟨rfl, rfl, rfl, rfl, trivial⟩ ?_
      conv => whnf
      have hxo := val_ok s f p1 cnt1 x hc1 hx
      rw [hx, Out.ok_bind] at hW
      refine OOK.callE [0] rfl rfl rfl (by kernel_rfl) rfl (f_more g7 b s 93 x.2.1 x.2.2 hs hxo.2.1 (fun h => hne (by rw [hW, h]; rfl))) (by decide) rfl (fun ch h => ⟨by rw [hW, h.1]; rfl, h.2⟩) ?_
      rintro v_ g9 m_ hg9 ⟨mm, hmm, rfl, rfl⟩
      conv => whnf
      have hmo := more_ok hmm
      rw [hmm, Out.ok_bind] at hW
      exact ⟨⟨mm.1, mm.2, x.2.2, f1, ys ++ [Val.mk yk yi yt yl yA yc yks yB yd], sV', vA', vc'⟩, [0, 5, 2, 3], Sub.of (by decide) rfl ⟨rfl, rfl, rfl, rfl, rfl, trivial⟩, fin mm x hW hmo.2 hxo _ g7 g9 hg7 hg9 hxt hyo hO' (by omega), by show f1 < f1 + 1; omega⟩
    · skip
      conv => whnf
      refine OOK.callE [0] rfl rfl rfl (by kernel_rfl) rfl (hV g6 p1 cnt1 hg06 hp1 hc1 hVs) (by decide) rfl (fun ch h => ⟨by rw [hW, h.1]; rfl, h.2⟩) ?_
      rintro v_ g7 m_ hg7 ⟨⟨yk, yi, yt, yl, yA, yc, yks, yB, yd⟩, x, hx, hxt, rfl, hyo, rfl⟩
      conv => whnf
      refine OAnd.mk ⟨rfl, rfl, rfl, rfl, trivial⟩ ?_
      conv => whnf
      refine OAnd.mk ?_ ?_
      · conv => whnf
        conv => whnf
        refine OAnd.mk ⟨rfl, rfl, rfl, rfl, trivial⟩ ?_
        conv => whnf
        intro bv
        conv => whnf
        refine OAnd.mk ⟨rfl, rfl, rfl, rfl, trivial⟩ ?_
        conv => whnf
        refine OOK.appendRowB (Val.mk yk yi yt yl yA yc yks yB yd) 1 Val.len rfl rfl rfl rfl (.inl ⟨_, rfl⟩) rfl (size := 5) (bytes := 80) rfl rfl rfl (by decide) rfl rfl hO (Src.own (i := 4) (q := 0) rfl rfl (fun j v hj => by rw [Nat.zero_add]; exact hj)) (Val.one _) (by omega) ?_
        intro sV' vA' vc' hO'
        conv => whnf
        refine OAnd.mk ⟨rfl, rfl, rfl, rfl, trivial⟩ ?_
        conv => whnf
        rw [ey (Val.mk yk yi yt yl yA yc yks yB yd)]
        refine OAnd.mk ⟨rfl, rfl, rfl, rfl, trivial⟩ ?_
        conv => whnf
        have hxo := val_ok s f p1 cnt1 x hc1 hx
        rw [hx, Out.ok_bind] at hW
        refine OOK.callE [0] rfl rfl rfl (by kernel_rfl) rfl (f_more g7 b s 93 x.2.1 x.2.2 hs hxo.2.1 (fun h => hne (by rw [hW, h]; rfl))) (by decide) rfl (fun ch h => ⟨by rw [hW, h.1]; rfl, h.2⟩) ?_
        rintro v_ g9 m_ hg9 ⟨mm, hmm, rfl, rfl⟩
        conv => whnf
        have hmo := more_ok hmm
        rw [hmm, Out.ok_bind] at hW
        exact ⟨⟨mm.1, mm.2, x.2.2, f1, ys ++ [Val.mk yk yi yt yl yA yc yks yB yd], sV', vA', vc'⟩, [0, 5, 2, 3], Sub.of (by decide) rfl ⟨rfl, rfl, rfl, rfl, rfl, trivial⟩, fin mm x hW hmo.2 hxo _ g7 g9 hg7 hg9 hxt hyo hO' (by omega), by show f1 < f1 + 1; omega⟩
      · skip
        conv => whnf
        intro bv
        conv => whnf
        refine OAnd.mk ⟨rfl, rfl, rfl, rfl, trivial⟩ ?_
        conv => whnf
        conv => whnf
        refine OAnd.mk ⟨rfl, rfl, rfl, rfl, trivial⟩ ?_
        conv => whnf
        refine OOK.appendRowB (Val.mk yk yi yt yl yA yc yks yB yd) 1 Val.len rfl rfl rfl rfl (.inl ⟨_, rfl⟩) rfl (size := 5) (bytes := 80) rfl rfl rfl (by decide) rfl rfl hO (Src.own (i := 4) (q := 0) rfl rfl (fun j v hj => by rw [Nat.zero_add]; exact hj)) (Val.one _) (by omega) ?_
        intro sV' vA' vc' hO'
        conv => whnf
        refine OAnd.mk ⟨rfl, rfl, rfl, rfl, trivial⟩ ?_
        conv => whnf
        rw [ey (Val.mk yk yi yt yl yA yc yks yB yd)]
        refine OAnd.mk ⟨rfl, rfl, rfl, rfl, trivial⟩ ?_
        conv => whnf
        have hxo := val_ok s f p1 cnt1 x hc1 hx
        rw [hx, Out.ok_bind] at hW
        refine OOK.callE [0] rfl rfl rfl (by kernel_rfl) rfl (f_more g7 b s 93 x.2.1 x.2.2 hs hxo.2.1 (fun h => hne (by rw [hW, h]; rfl))) (by decide) rfl (fun ch h => ⟨by rw [hW, h.1]; rfl, h.2⟩) ?_
        rintro v_ g9 m_ hg9 ⟨mm, hmm, rfl, rfl⟩
        conv => whnf
        have hmo := more_ok hmm
        rw [hmm, Out.ok_bind] at hW
        exact ⟨⟨mm.1, mm.2, x.2.2, f1, ys ++ [Val.mk yk yi yt yl yA yc yks yB yd], sV', vA', vc'⟩, [0, 5, 2, 3], Sub.of (by decide) rfl ⟨rfl, rfl, rfl, rfl, rfl, trivial⟩, fin mm x hW hmo.2 hxo _ g7 g9 hg7 hg9 hxt hyo hO' (by omega), by show f1 < f1 + 1; omega⟩
  | false =>
    rw [if_neg (by decide)] at hW
    have hl := hO.le
    refine COK.rowF 1 hO rfl ?_
    intro g7 hg7 hR
    refine vcC_ok _ _ _ _ _ ?_
    conv => whnf
    refine ⟨(by intro q; cases q), fun _ => ?_⟩
    conv => whnf
    exact .mk ⟨_, [0], _, rfl, by decide, rfl, ⟨rfl, trivial⟩, Val.mk 4 0 [] ys A c [] none 0, _, hW, (Val.t_mk ..).symm, rfl, .mk hR (fun h => absurd rfl h) hl (Nat.le_refl _) ⟨by omega, by simp⟩ (fun z hz => (hyo0 z hz).mono hg7), rfl⟩
end Go.Proofs.YthkfnmmbjoadbaaGreatDoor
