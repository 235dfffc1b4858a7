/- WholeTexts: the order of two payloads. -/
import Derived.Test.YthkfnmmbjoadbaaGreatDoorYm4
set_option linter.unusedVariables false
set_option linter.unusedSimpArgs false
set_option maxRecDepth 100000
namespace Go.Proofs.YthkfnmmbjoadbaaGreatDoor
open Go Go.SX

def cmpI (a b : Int) : Int := if a < b then -1 else if a > b then 1 else 0
mutual
def T.ord : T → T → Int
  | .mk k i s l ks, .mk k' i' s' l' ks' =>
    if k ≠ k' then cmpI k k' else if k = 3 then cmpB s s' else
    if ordI (decide (k = 5)) l ks l' ks' ≠ 0 then ordI (decide (k = 5)) l ks l' ks' else
    if cmpI l.length l'.length ≠ 0 then cmpI l.length l'.length else cmpI i i'
def ordI (m : Bool) : List T → List (List UInt8) → List T → List (List UInt8) → Int
  | [], _, _, _ => 0
  | _ :: _, _, [], _ => 0
  | x :: l, ks, y :: r, ks' =>
    if (if m then cmpB (ks.headD []) (ks'.headD []) else 0) ≠ 0 then (if m then cmpB (ks.headD []) (ks'.headD []) else 0)
    else if x.ord y ≠ 0 then x.ord y else ordI m l ks.tail r ks'.tail
end
theorem ordI_at {m : Bool} {l r : List T} {ks ks' : List (List UInt8)} {i : Nat} {x y : T} (hx : l[i]? = some x) (hy : r[i]? = some y) :
    ordI m (l.drop i) (ks.drop i) (r.drop i) (ks'.drop i) = if (if m then cmpB (ks[i]?.getD []) (ks'[i]?.getD []) else 0) ≠ 0 then (if m then cmpB (ks[i]?.getD []) (ks'[i]?.getD []) else 0)
    else if x.ord y ≠ 0 then x.ord y else ordI m (l.drop (i + 1)) (ks.drop (i + 1)) (r.drop (i + 1)) (ks'.drop (i + 1)) := by
  have e1 : l.drop i = x :: l.drop (i + 1) := by
    obtain ⟨h, rfl⟩ := List.getElem?_eq_some_iff.1 hx
    exact List.drop_eq_getElem_cons h
  have e2 : r.drop i = y :: r.drop (i + 1) := by
    obtain ⟨h, rfl⟩ := List.getElem?_eq_some_iff.1 hy
    exact List.drop_eq_getElem_cons h
  rw [e1, e2, ordI]
  simp only [List.headD_eq_head?_getD, List.head?_drop, List.tail_drop]
theorem ordI_end {m : Bool} {l r : List T} {ks ks' : List (List UInt8)} {i : Nat} (h : l.length ≤ i ∨ r.length ≤ i) : ordI m (l.drop i) (ks.drop i) (r.drop i) (ks'.drop i) = 0 := by
  rcases h with h | h
  · rw [List.drop_eq_nil_of_le h, ordI]
  · rw [List.drop_eq_nil_of_le h]
    cases l.drop i <;> rw [ordI]
theorem WF.keysL {d : Nat} {kind int : Int} {text : List UInt8} {items : List Val} {keys : List (List UInt8)} (h : WF d (.mk kind int text (items.map Val.t) keys)) : kind = 5 → keys.length = items.length := by
  intro h5
  rcases h.inv with ⟨h, _⟩ | ⟨h, _⟩ | ⟨h, _⟩ | ⟨h, _⟩ | ⟨_, _, h, _⟩ | ⟨_, _, h, _, _, h2, _⟩
  · rw [h] at h5; cases h5
  · rw [h] at h5; cases h5
  · rw [h] at h5; cases h5
  · rw [h] at h5; cases h5
  · rw [h] at h5; cases h5
  · simpa using h2
theorem f_cmpI (g : GH) (a b : Int) : Tri Tryz.prog 91 [.int .i64 a, .int .i64 b] g [] fun v g' m' => v = .int .i64 (cmpI a b) ∧ m' = [] := by
  refine Tri.vc [.val (.int .i64 a), .val (.int .i64 b)] Tryz.func91 rfl Tryz.ntmps91 rfl rfl ?_
  conv => whnf
  refine ⟨fun q => ?_, fun q => ?_⟩
  · conv => whnf
    exact .mk ⟨_, [], _, rfl, by decide, rfl, trivial, int_eq (by unfold cmpI; rw [if_pos (of_decide_eq_true q)]), rfl⟩
  · conv => whnf
    refine ⟨fun r => ?_, fun r => ?_⟩
    · conv => whnf
      exact .mk ⟨_, [], _, rfl, by decide, rfl, trivial, int_eq (by unfold cmpI; rw [if_neg (of_decide_eq_false q), if_pos (of_decide_eq_true r)]), rfl⟩
    · conv => whnf
      exact .mk ⟨_, [], _, rfl, by decide, rfl, trivial, int_eq (by unfold cmpI; rw [if_neg (of_decide_eq_false q), if_neg (of_decide_eq_false r)]), rfl⟩
theorem f_cmpL (g : GH) (a b : Int) : Tri Tryz.prog 55 [.int .i64 a, .int .i64 b] g [] fun v g' m' => v = .int .i64 (cmpI a b) ∧ m' = [] := by
  refine Tri.vc [.val (.int .i64 a), .val (.int .i64 b)] Tryz.func55 rfl Tryz.ntmps55 rfl rfl ?_
  conv => whnf
  refine ⟨fun q => ?_, fun q => ?_⟩
  · conv => whnf
    exact .mk ⟨_, [], _, rfl, by decide, rfl, trivial, int_eq (by unfold cmpI; rw [if_pos (of_decide_eq_true q)]), rfl⟩
  · conv => whnf
    refine ⟨fun r => ?_, fun r => ?_⟩
    · conv => whnf
      exact .mk ⟨_, [], _, rfl, by decide, rfl, trivial, int_eq (by unfold cmpI; rw [if_neg (of_decide_eq_false q), if_pos (of_decide_eq_true r)]), rfl⟩
    · conv => whnf
      exact .mk ⟨_, [], _, rfl, by decide, rfl, trivial, int_eq (by unfold cmpI; rw [if_neg (of_decide_eq_false q), if_neg (of_decide_eq_false r)]), rfl⟩
theorem f_ord0 (a : Val) : ∀ (b : Val) (d : Nat) (g : GH), a.Ok g → b.Ok g → WF d a.t → WF d b.t → Tri Tryz.prog 54 [a.val, b.val] g [] fun v g' m' => v = .int .i64 (a.t.ord b.t) ∧ m' = [] := by
  induction a using Val.ind with
  | h xk xi xt xl xA xc xs xB xd ih =>
    rintro ⟨yk, yi, yt, yl, yA, yc, ys, yB, yd⟩ d g (⟨ai, ak, -, -, ab, ah⟩) (⟨bi, bk, -, -, bb, bh⟩) ha hb
    rw [Val.t_mk] at ha hb
    rw [Val.t_mk, Val.t_mk]
    have hita := ha.items
    have hitb := hb.items
    have hka : xk = 5 → xs.length = xl.length := ha.keysL
    have hkb : yk = 5 → ys.length = yl.length := hb.keysL
    obtain ⟨R, hR⟩ : ∃ R, R = T.ord (.mk xk xi xt (xl.map Val.t) xs) (.mk yk yi yt (yl.map Val.t) ys) := ⟨_, rfl⟩
    rw [← hR]
    rw [T.ord] at hR
    refine Tri.vc [.val (Val.mk xk xi xt xl xA xc xs xB xd).val, .val (Val.mk yk yi yt yl yA yc ys yB yd).val] Tryz.func54 rfl Tryz.ntmps54 rfl rfl ?_
    conv => whnf
    intro b2
    conv => whnf
    intro b3
    conv => whnf
    refine ⟨fun q1 => ?_, fun q1 => ?_⟩
    · have hk : xk ≠ yk := by simpa using q1
      conv => whnf
      refine OOK.call [] rfl rfl rfl (by kernel_rfl) rfl (f_cmpI g xk yk) (by decide) rfl ?_
      rintro v_ g1 m_ hg1 ⟨rfl, rfl⟩
      conv => whnf
      exact .mk ⟨_, [], _, rfl, by decide, rfl, trivial, int_eq (by rw [hR, if_pos hk]), rfl⟩
    have hk : xk = yk := by simpa using q1
    subst hk
    rw [if_neg (by simp)] at hR
    conv => whnf
    refine ⟨fun q2 => ?_, fun q2 => ?_⟩
    · have hk : xk = 3 := by simpa using q2
      conv => whnf
      refine OOK.call [] rfl rfl rfl (by kernel_rfl) rfl (f_compare g xt yt) (by decide) rfl ?_
      rintro v_ g1 m_ hg1 ⟨rfl, rfl⟩
      conv => whnf
      exact .mk ⟨_, [], _, rfl, by decide, rfl, trivial, int_eq (by rw [hR, if_pos hk]), rfl⟩
    have hk : xk ≠ 3 := by simpa using q2
    rw [if_neg hk] at hR
    conv => whnf
    obtain ⟨full, hfull⟩ : ∃ f, f = ordI (decide (xk = 5)) (xl.map Val.t) xs (yl.map Val.t) ys := ⟨_, rfl⟩
    rw [← hfull] at hR
    refine COK.loop (α := Nat) (fun x => [(2, .own 0 0), (3, .own 1 0), (5, .val (.int .i64 x))]) (fun _ => [⟨b2, .cells (Val.mk xk xi xt xl xA xc xs xB xd).cells 28 (0, 0)⟩, ⟨b3, .cells (Val.mk xk yi yt yl yA yc ys yB yd).cells 28 (0, 0)⟩]) (fun x _ => x ≤ xl.length ∧ x ≤ yl.length ∧ full = ordI (decide (xk = 5)) ((xl.map Val.t).drop x) (xs.drop x) ((yl.map Val.t).drop x) (ys.drop x)) (fun x => xl.length - x) 0 [0, 1] (Sub.of (by decide) rfl ⟨rfl, rfl, rfl, trivial⟩) ⟨Nat.zero_le _, Nat.zero_le _, hfull⟩ ?_
    rintro i g1 hg1 ⟨hi1, hi2, hinv⟩

    by_cases hlt : i < xl.length ∧ i < yl.length
    · obtain ⟨hlx, hly⟩ := hlt
      obtain ⟨x, hx⟩ : ∃ x, xl[i]? = some x := ⟨_, List.getElem?_eq_getElem hlx⟩
      obtain ⟨y, hy⟩ : ∃ y, yl[i]? = some y := ⟨_, List.getElem?_eq_getElem hly⟩
      have hmx := List.mem_of_getElem? hx
      have hmy := List.mem_of_getElem? hy
      obtain ⟨da, hda, hla, hwa⟩ : ∃ d', d = d' + 1 ∧ xl.length ≤ 4 ∧ ∀ x ∈ xl, WF d' x.t := by
        rcases hita with h | h
        · rw [h] at hlx; simp at hlx
        · exact h
      obtain ⟨db, hdb, hlb, hwb⟩ : ∃ d', d = d' + 1 ∧ yl.length ≤ 4 ∧ ∀ x ∈ yl, WF d' x.t := by
        rcases hitb with h | h
        · rw [h] at hly; simp at hly
        · exact h
      obtain rfl : da = db := by omega
      have hT := fun g2 (hg2 : g.le g2) => ih x hmx y da g2 ((ah x hmx).mono hg2) ((bh y hmy).mono hg2) (hwa x hmx) (hwb y hmy)
      have hxx : (xl.map Val.t)[i]? = some x.t := by rw [List.getElem?_map, hx]; rfl
      have hyy : (yl.map Val.t)[i]? = some y.t := by rw [List.getElem?_map, hy]; rfl
      rw [ordI_at hxx hyy] at hinv
      obtain ⟨a, rfl, hra⟩ := (ai.mono hg1).at_ Val.len hx
      obtain ⟨b, rfl, hrb⟩ := (bi.mono hg1).at_ Val.len hy
      obtain ⟨x1, x2, x3, x4, x5, x6, x7, x8, x9⟩ := x
      obtain ⟨y1, y2, y3, y4, y5, y6, y7, y8, y9⟩ := y
      generalize (Val.mk x1 x2 x3 x4 x5 x6 x7 x8 x9).t = xT at hT hxx hinv
      generalize (Val.mk y1 y2 y3 y4 y5 y6 y7 y8 y9).t = yT at hT hyy hinv
      refine vcC_ok _ _ _ _ _ ?_
      conv => whnf
      refine ⟨fun _ => ?_, fun h1 => absurd (of_decide_eq_false h1) (by omega)⟩
      conv => whnf
      refine ⟨fun _ => ?_, fun h1 => absurd (of_decide_eq_false h1) (by omega)⟩
      conv => whnf
      refine ⟨fun q5 => ?_, fun q5 => ?_⟩
      · have hk5 : xk = 5 := by simpa using q5
        have hkx := hka hk5
        have hky := hkb hk5
        obtain ⟨kx, hkx⟩ : ∃ k, xs[i]? = some k := ⟨_, List.getElem?_eq_getElem (by omega)⟩
        obtain ⟨ky, hky⟩ : ∃ k, ys[i]? = some k := ⟨_, List.getElem?_eq_getElem (by omega)⟩
        rw [hkx, hky, if_pos (decide_eq_true hk5), Option.getD_some, Option.getD_some] at hinv
        obtain ⟨ka, rfl, hrka⟩ := (ak.mono hg1).at_ encK_len hkx
        obtain ⟨kb, rfl, hrkb⟩ := (bk.mono hg1).at_ encK_len hky
        conv => whnf
        refine COK.draw [0, 1] (by kernel_rfl) (by kernel_rfl) ?_
        conv => whnf
        refine ⟨⟨by omega, by omega⟩, ?_⟩
        conv => whnf
        refine YN.load rfl rfl rfl (v := .string (str kx)) (Reads.at0 hrka) ?_
        conv => whnf
        refine ⟨⟨by omega, by omega⟩, ?_⟩
        conv => whnf
        refine YN.load rfl rfl rfl (v := .string (str ky)) (Reads.at0 hrkb) ?_
        conv => whnf
        refine OOK.call [] rfl rfl rfl (by kernel_rfl) rfl (f_compare g1 kx ky) (by decide) rfl ?_
        rintro v_ g2 m_ hg2 ⟨rfl, rfl⟩
        conv => whnf
        refine ⟨⟨rfl, rfl, trivial⟩, ?_⟩
        conv => whnf
        refine ⟨fun q6 => ?_, fun q6 => ?_⟩
        · have h6 : cmpB kx ky ≠ 0 := by simpa using q6
          rw [if_pos h6] at hinv
          have hf : R = cmpB kx ky := by rw [hR, hinv, if_pos h6]
          conv => whnf
          exact .mk ⟨_, [], _, rfl, by decide, rfl, trivial, int_eq hf.symm, rfl⟩
        · have h6 : cmpB kx ky = 0 := by simpa using q6
          rw [if_neg (by simp [h6])] at hinv
          conv => whnf
          refine COK.draw [0, 1] (by kernel_rfl) (by kernel_rfl) ?_
          conv => whnf
          refine ⟨⟨by omega, by omega⟩, ?_⟩
          conv => whnf
          refine YN.loads rfl rfl rfl (hra.mono hg2) ?_
          conv => whnf
          refine ⟨⟨by omega, by omega⟩, ?_⟩
          conv => whnf
          refine YN.loads rfl rfl rfl (hrb.mono hg2) ?_
          conv => whnf
          refine OOK.call [] rfl rfl rfl (by kernel_rfl) rfl (hT g2 (hg1.trans hg2)) (by decide) rfl ?_
          rintro v_ g9 m_ hg9 ⟨rfl, rfl⟩
          conv => whnf
          refine ⟨⟨rfl, rfl, trivial⟩, ?_⟩
          conv => whnf
          refine ⟨fun q7 => ?_, fun q7 => ?_⟩
          · have h7 : xT.ord yT ≠ 0 := by simpa using q7
            rw [if_pos h7] at hinv
            have hf : R = xT.ord yT := by rw [hR, hinv, if_pos h7]
            conv => whnf
            exact .mk ⟨_, [], _, rfl, by decide, rfl, trivial, int_eq hf.symm, rfl⟩
          · have h7 : xT.ord yT = 0 := by simpa using q7
            rw [if_neg (by simp [h7])] at hinv
            conv => whnf
            exact ⟨i + 1, [0, 1], Sub.of (by decide) rfl ⟨rfl, rfl, int_eq (i64_in (by omega) (by omega)), trivial⟩, ⟨hlx, hly, hinv⟩, by omega⟩
      · have hk5 : xk ≠ 5 := by simpa using q5
        rw [if_neg (by simp [hk5] : ¬ (decide (xk = 5)) = true), if_neg (by simp)] at hinv
        conv => whnf
        refine COK.draw [0, 1] (by kernel_rfl) (by kernel_rfl) ?_
        conv => whnf
        refine ⟨⟨by omega, by omega⟩, ?_⟩
        conv => whnf
        refine YN.loads rfl rfl rfl hra ?_
        conv => whnf
        refine ⟨⟨by omega, by omega⟩, ?_⟩
        conv => whnf
        refine YN.loads rfl rfl rfl hrb ?_
        conv => whnf
        refine OOK.call [] rfl rfl rfl (by kernel_rfl) rfl (hT g1 hg1) (by decide) rfl ?_
        rintro v_ g9 m_ hg9 ⟨rfl, rfl⟩
        conv => whnf
        refine ⟨⟨rfl, rfl, trivial⟩, ?_⟩
        conv => whnf
        refine ⟨fun q7 => ?_, fun q7 => ?_⟩
        · have h7 : xT.ord yT ≠ 0 := by simpa using q7
          rw [if_pos h7] at hinv
          have hf : R = xT.ord yT := by rw [hR, hinv, if_pos h7]
          conv => whnf
          exact .mk ⟨_, [], _, rfl, by decide, rfl, trivial, int_eq hf.symm, rfl⟩
        · have h7 : xT.ord yT = 0 := by simpa using q7
          rw [if_neg (by simp [h7])] at hinv
          conv => whnf
          exact ⟨i + 1, [0, 1], Sub.of (by decide) rfl ⟨rfl, rfl, int_eq (i64_in (by omega) (by omega)), trivial⟩, ⟨hlx, hly, hinv⟩, by omega⟩
    · have he : xl.length ≤ i ∨ yl.length ≤ i := by omega
      rw [ordI_end (by simpa using he)] at hinv
      rw [if_neg (by simp [hinv]), List.length_map, List.length_map] at hR
      refine vcC_ok _ _ _ _ _ ?_
      conv => whnf
      by_cases hx : i < xl.length
      · refine ⟨fun _ => ?_, fun h1 => absurd (of_decide_eq_false h1) (by omega)⟩
        conv => whnf
        refine ⟨fun h1 => absurd (of_decide_eq_true h1) (by omega), fun _ => ?_⟩
        conv => whnf
        refine OOK.call [] rfl rfl rfl (by kernel_rfl) rfl (f_cmpI g1 xl.length yl.length) (by decide) rfl ?_
        rintro v_ g2 m_ hg2 ⟨rfl, rfl⟩
        conv => whnf
        refine ⟨fun q8 => ?_, fun q8 => ?_⟩
        · have h8 : cmpI xl.length yl.length ≠ 0 := by simpa using q8
          conv => whnf
          exact .mk ⟨_, [], _, rfl, by decide, rfl, trivial, int_eq (by rw [hR, if_pos h8]), rfl⟩
        · have h8 : cmpI xl.length yl.length = 0 := by simpa using q8
          rw [if_neg (by simp [h8])] at hR
          conv => whnf
          refine OOK.call [] rfl rfl rfl (by kernel_rfl) rfl (f_cmpI g2 xi yi) (by decide) rfl ?_
          rintro v_ g3 m_ hg3 ⟨rfl, rfl⟩
          conv => whnf
          exact .mk ⟨_, [], _, rfl, by decide, rfl, trivial, int_eq hR.symm, rfl⟩
      · refine ⟨fun h1 => absurd (of_decide_eq_true h1) (by omega), fun _ => ?_⟩
        conv => whnf
        refine OOK.call [] rfl rfl rfl (by kernel_rfl) rfl (f_cmpI g1 xl.length yl.length) (by decide) rfl ?_
        rintro v_ g2 m_ hg2 ⟨rfl, rfl⟩
        conv => whnf
        refine ⟨fun q8 => ?_, fun q8 => ?_⟩
        · have h8 : cmpI xl.length yl.length ≠ 0 := by simpa using q8
          conv => whnf
          exact .mk ⟨_, [], _, rfl, by decide, rfl, trivial, int_eq (by rw [hR, if_pos h8]), rfl⟩
        · have h8 : cmpI xl.length yl.length = 0 := by simpa using q8
          rw [if_neg (by simp [h8])] at hR
          conv => whnf
          refine OOK.call [] rfl rfl rfl (by kernel_rfl) rfl (f_cmpI g2 xi yi) (by decide) rfl ?_
          rintro v_ g3 m_ hg3 ⟨rfl, rfl⟩
          conv => whnf
          exact .mk ⟨_, [], _, rfl, by decide, rfl, trivial, int_eq hR.symm, rfl⟩
end Go.Proofs.YthkfnmmbjoadbaaGreatDoor
/- WholeTexts: the order of two payloads, by the seat's own function. -/
set_option linter.unusedVariables false
set_option linter.unusedSimpArgs false
set_option maxRecDepth 100000
namespace Go.Proofs.YthkfnmmbjoadbaaGreatDoor
open Go Go.SX

theorem f_order (a : Val) (b : Val) (g : GH) (ha : a.Ok g) (hb : b.Ok g) (wa : WF 4 a.t) (wb : WF 4 b.t) : Tri Tryz.prog 23 [a.val, b.val] g [] fun v g' m' => v = .int .i64 (a.t.ord b.t) ∧ m' = [] := by
  have t1 := f_formed a 4 g true ha wa
  have t2 := fun g' (hg' : g.le g') => f_formed b 4 g' true (hb.mono hg') wb
  have t3 := fun g' (hg' : g.le g') => f_ord0 a b 4 g' (ha.mono hg') (hb.mono hg') wa wb
  generalize a.t.ord b.t = R at *
  obtain ⟨xk, xi, xt, xl, xA, xc, xs, xB, xd⟩ := a
  obtain ⟨yk, yi, yt, yl, yA, yc, ys, yB, yd⟩ := b
  refine Tri.vc [.val (Val.mk xk xi xt xl xA xc xs xB xd).val, .val (Val.mk yk yi yt yl yA yc ys yB yd).val] Tryz.func23 rfl Tryz.ntmps23 rfl rfl ?_
  conv => whnf
  intro b2
  conv => whnf
  intro b3
  conv => whnf
  refine OOK.call [] rfl rfl rfl (by kernel_rfl) rfl (t1) (by decide) rfl ?_
  rintro v_ g1 m_ hg1 ⟨rfl, rfl⟩
  conv => whnf
  refine ⟨(by intro q; cases q), fun _ => ?_⟩
  conv => whnf
  refine OOK.call [] rfl rfl rfl (by kernel_rfl) rfl (t2 g1 hg1) (by decide) rfl ?_
  rintro v_ g2 m_ hg2 ⟨rfl, rfl⟩
  conv => whnf
  refine ⟨(by intro q; cases q), fun _ => ?_⟩
  conv => whnf
  refine OOK.call [] rfl rfl rfl (by kernel_rfl) rfl (t3 g2 (hg1.trans hg2)) (by decide) rfl ?_
  rintro v_ g3 m_ hg3 ⟨rfl, rfl⟩
  conv => whnf
  exact .mk ⟨_, [], _, rfl, by decide, rfl, trivial, rfl, rfl⟩
theorem cmpB_nil : cmpB [] [] = 0 := by decide
theorem cmpI_self (a : Int) : cmpI a a = 0 := by unfold cmpI; rw [if_neg (by omega), if_neg (by omega)]
theorem ordI_nil (m : Bool) (l : List T) (ks ks' : List (List UInt8)) : ordI m [] ks l ks' = 0 := by rw [ordI]
theorem ord_int {d : Nat} {k i i' : Int} {s s' : List UInt8} {l l' : List T} {ks ks' : List (List UInt8)} (ha : WF d (.mk k i s l ks)) (hb : WF d (.mk k i' s' l' ks')) (h : cmpI i i' ≠ 0) :
    T.ord (.mk k i s l ks) (.mk k i' s' l' ks') = cmpI i i' := by
  have base : k ≠ 3 → l = [] → l' = [] → T.ord (.mk k i s l ks) (.mk k i' s' l' ks') = cmpI i i' := by
    rintro hk rfl rfl
    rw [T.ord, if_neg (by simp), if_neg hk, ordI_nil, if_neg (by simp), if_neg (by simp [cmpI_self])]
  have zero : i = 0 → i' = 0 → T.ord (.mk k i s l ks) (.mk k i' s' l' ks') = cmpI i i' := by
    rintro rfl rfl
    exact absurd (cmpI_self 0) h
  rcases ha.inv with ⟨h0, h1, h2, h3, h4⟩ | ⟨h0, h1, h2, h3, h4⟩ | ⟨h0, h1, h2, h3, h4, h5⟩ | ⟨h0, h1, h2, h3, h4⟩ | ⟨d', hd, h0, h1, h2, h3, hl, hw⟩ | ⟨d', hd, h0, h1, h2, h3, hl, hs, h6, hw⟩ <;>
  rcases hb.inv with ⟨k0, k1, k2, k3, k4⟩ | ⟨k0, k1, k2, k3, k4⟩ | ⟨k0, k1, k2, k3, k4, k5⟩ | ⟨k0, k1, k2, k3, k4⟩ | ⟨d2, kd, k0, k1, k2, k3, kl, kw⟩ | ⟨d2, kd, k0, k1, k2, k3, kl, ks, k6, kw⟩ <;>
  first
  | exact absurd (h0.symm.trans k0) (by decide)
  | exact zero h1 k1
  | exact base (by rw [h0]; decide) h3 k3
  | exact base (by rw [h0]; decide) h5 k5
  | exact base (by rw [h0]; decide) (by assumption) (by assumption)
theorem ord_text {d : Nat} {k i i' : Int} {s s' : List UInt8} {l l' : List T} {ks ks' : List (List UInt8)} (ha : WF d (.mk k i s l ks)) (hb : WF d (.mk k i' s' l' ks')) (h : cmpB s s' ≠ 0) :
    T.ord (.mk k i s l ks) (.mk k i' s' l' ks') = cmpB s s' := by
  have hk : k = 3 := by
    rcases ha.inv with ⟨h0, h1, h2, h3, h4⟩ | ⟨h0, h1, h2, h3, h4⟩ | ⟨h0, h1, h5, h2, h3, h4⟩ | ⟨h0, h1, h2, h3, h4⟩ | ⟨d', hd, h0, h1, h2, h3, hl, hw⟩ | ⟨d', hd, h0, h1, h2, h3, hl, hs, h6, hw⟩ <;>
    rcases hb.inv with ⟨k0, k1, k2, k3, k4⟩ | ⟨k0, k1, k2, k3, k4⟩ | ⟨k0, k1, k5, k2, k3, k4⟩ | ⟨k0, k1, k2, k3, k4⟩ | ⟨d2, kd, k0, k1, k2, k3, kl, kw⟩ | ⟨d2, kd, k0, k1, k2, k3, kl, ks, k6, kw⟩ <;>
    first
    | exact absurd (h0.symm.trans k0) (by decide)
    | exact h0
    | (rw [h2, k2] at h; exact absurd cmpB_nil h)
  rw [T.ord, if_neg (by simp), if_pos hk]
theorem ord_rest {d : Nat} {k i i' : Int} {s s' : List UInt8} {l l' : List T} {ks ks' : List (List UInt8)} (ha : WF d (.mk k i s l ks)) (hb : WF d (.mk k i' s' l' ks')) (h1 : cmpI i i' = 0) (h2 : cmpB s s' = 0) :
    T.ord (.mk k i s l ks) (.mk k i' s' l' ks') = if ordI (decide (k = 5)) l ks l' ks' ≠ 0 then ordI (decide (k = 5)) l ks l' ks' else cmpI l.length l'.length := by
  rw [T.ord, if_neg (by simp)]
  by_cases hk : k = 3
  · subst hk
    have hl : l = [] := by
      rcases ha.inv with ⟨h, _⟩ | ⟨h, _⟩ | ⟨h, _⟩ | ⟨h, _, _, h, _⟩ | ⟨_, _, h, _⟩ | ⟨_, _, h, _⟩
      · cases h
      · cases h
      · cases h
      · exact h
      · cases h
      · cases h
    have hl' : l' = [] := by
      rcases hb.inv with ⟨h, _⟩ | ⟨h, _⟩ | ⟨h, _⟩ | ⟨h, _, _, h, _⟩ | ⟨_, _, h, _⟩ | ⟨_, _, h, _⟩
      · cases h
      · cases h
      · cases h
      · exact h
      · cases h
      · cases h
    subst hl hl'
    rw [if_pos rfl, ordI_nil, h2, if_neg (by simp), cmpI_self]
  · rw [if_neg hk, h1]
    split
    · rfl
    · split
      · rfl
      · rename_i h
        exact (Classical.not_not.1 h).symm
theorem f_lord (a : Val) : ∀ (b : Val) (d : Nat) (g : GH), a.Ok g → b.Ok g → WF d a.t → WF d b.t → Tri Tryz.prog 24 [a.val, b.val] g [] fun v g' m' => v = .int .i64 (a.t.ord b.t) ∧ m' = [] := by
  induction a using Val.ind with
  | h xk xi xt xl xA xc xs xB xd ih =>
    rintro ⟨yk, yi, yt, yl, yA, yc, ys, yB, yd⟩ d g (⟨ai, ak, -, -, ab, ah⟩) (⟨bi, bk, -, -, bb, bh⟩) ha hb
    rw [Val.t_mk] at ha hb
    rw [Val.t_mk, Val.t_mk]
    have hita := ha.items
    have hitb := hb.items
    have hka : xk = 5 → xs.length = xl.length := ha.keysL
    have hkb : yk = 5 → ys.length = yl.length := hb.keysL
    obtain ⟨R, hR⟩ : ∃ R, R = T.ord (.mk xk xi xt (xl.map Val.t) xs) (.mk yk yi yt (yl.map Val.t) ys) := ⟨_, rfl⟩
    rw [← hR]
    refine Tri.vc [.val (Val.mk xk xi xt xl xA xc xs xB xd).val, .val (Val.mk yk yi yt yl yA yc ys yB yd).val] Tryz.func24 rfl Tryz.ntmps24 rfl rfl ?_
    conv => whnf
    intro b2
    conv => whnf
    intro b3
    conv => whnf
    refine ⟨fun q1 => ?_, fun q1 => ?_⟩
    · have hk : xk ≠ yk := by simpa using q1
      rw [T.ord, if_pos hk] at hR
      conv => whnf
      refine OOK.call [] rfl rfl rfl (by kernel_rfl) rfl (f_cmpL g xk yk) (by decide) rfl ?_
      rintro v_ g1 m_ hg1 ⟨rfl, rfl⟩
      conv => whnf
      exact .mk ⟨_, [], _, rfl, by decide, rfl, trivial, int_eq hR.symm, rfl⟩
    have hk : xk = yk := by simpa using q1
    subst hk
    conv => whnf
    refine OOK.call [] rfl rfl rfl (by kernel_rfl) rfl (f_cmpL g xi yi) (by decide) rfl ?_
    rintro v_ ga m_ hga ⟨rfl, rfl⟩
    conv => whnf
    refine ⟨fun q2 => ?_, fun q2 => ?_⟩
    · have h2 : cmpI xi yi ≠ 0 := by simpa using q2
      rw [ord_int ha hb h2] at hR
      conv => whnf
      exact .mk ⟨_, [], _, rfl, by decide, rfl, trivial, int_eq hR.symm, rfl⟩
    have h2 : cmpI xi yi = 0 := by simpa using q2
    conv => whnf
    refine OOK.call [] rfl rfl rfl (by kernel_rfl) rfl (f_compare ga xt yt) (by decide) rfl ?_
    rintro v_ gb m_ hgb ⟨rfl, rfl⟩
    conv => whnf
    refine ⟨fun q3 => ?_, fun q3 => ?_⟩
    · have h3 : cmpB xt yt ≠ 0 := by simpa using q3
      rw [ord_text ha hb h3] at hR
      conv => whnf
      exact .mk ⟨_, [], _, rfl, by decide, rfl, trivial, int_eq hR.symm, rfl⟩
    have h3 : cmpB xt yt = 0 := by simpa using q3
    rw [ord_rest ha hb h2 h3, List.length_map, List.length_map] at hR
    conv => whnf
    obtain ⟨mn, hmn⟩ : ∃ x : Nat, x = min xl.length yl.length := ⟨_, rfl⟩
    have hgb := hga.trans hgb
    replace ai := ai.mono hgb
    replace ak := ak.mono hgb
    replace ah := fun x hx => (ah x hx).mono hgb
    replace bi := bi.mono hgb
    replace bk := bk.mono hgb
    replace bh := fun x hx => (bh x hx).mono hgb
    obtain ⟨full, hfull⟩ : ∃ f, f = ordI (decide (xk = 5)) (xl.map Val.t) xs (yl.map Val.t) ys := ⟨_, rfl⟩
    rw [← hfull] at hR
    refine COK.loop (α := Nat) (fun x => [(2, .own 0 0), (3, .own 1 0), (5, .val (.func (.func 55) #[] #[])), (45, .val (.int .i64 (mn : Nat))), (46, .val (.int .i64 x))]) (fun _ => [⟨b2, .cells (Val.mk xk xi xt xl xA xc xs xB xd).cells 28 (0, 0)⟩, ⟨b3, .cells (Val.mk xk yi yt yl yA yc ys yB yd).cells 28 (0, 0)⟩]) (fun x _ => x ≤ xl.length ∧ x ≤ yl.length ∧ full = ordI (decide (xk = 5)) ((xl.map Val.t).drop x) (xs.drop x) ((yl.map Val.t).drop x) (ys.drop x)) (fun x => xl.length - x) 0 [0, 1] (Sub.of (by decide) rfl ⟨rfl, rfl, rfl, int_eq (by subst hmn; show minI _ _ = _; unfold minI; split <;> omega), rfl, trivial⟩) ⟨Nat.zero_le _, Nat.zero_le _, hfull⟩ ?_
    rintro i g1 hg1 ⟨hi1, hi2, hinv⟩

    by_cases hlt : i < xl.length ∧ i < yl.length
    · obtain ⟨hlx, hly⟩ := hlt
      obtain ⟨x, hx⟩ : ∃ x, xl[i]? = some x := ⟨_, List.getElem?_eq_getElem hlx⟩
      obtain ⟨y, hy⟩ : ∃ y, yl[i]? = some y := ⟨_, List.getElem?_eq_getElem hly⟩
      have hmx := List.mem_of_getElem? hx
      have hmy := List.mem_of_getElem? hy
      obtain ⟨da, hda, hla, hwa⟩ : ∃ d', d = d' + 1 ∧ xl.length ≤ 4 ∧ ∀ x ∈ xl, WF d' x.t := by
        rcases hita with h | h
        · rw [h] at hlx; simp at hlx
        · exact h
      obtain ⟨db, hdb, hlb, hwb⟩ : ∃ d', d = d' + 1 ∧ yl.length ≤ 4 ∧ ∀ x ∈ yl, WF d' x.t := by
        rcases hitb with h | h
        · rw [h] at hly; simp at hly
        · exact h
      obtain rfl : da = db := by omega
      have hT := fun g2 (hg2 : gb.le g2) => ih x hmx y da g2 ((ah x hmx).mono hg2) ((bh y hmy).mono hg2) (hwa x hmx) (hwb y hmy)
      have hxx : (xl.map Val.t)[i]? = some x.t := by rw [List.getElem?_map, hx]; rfl
      have hyy : (yl.map Val.t)[i]? = some y.t := by rw [List.getElem?_map, hy]; rfl
      rw [ordI_at hxx hyy] at hinv
      obtain ⟨a, rfl, hra⟩ := (ai.mono hg1).at_ Val.len hx
      obtain ⟨b, rfl, hrb⟩ := (bi.mono hg1).at_ Val.len hy
      obtain ⟨x1, x2, x3, x4, x5, x6, x7, x8, x9⟩ := x
      obtain ⟨y1, y2, y3, y4, y5, y6, y7, y8, y9⟩ := y
      generalize (Val.mk x1 x2 x3 x4 x5 x6 x7 x8 x9).t = xT at hT hxx hinv
      generalize (Val.mk y1 y2 y3 y4 y5 y6 y7 y8 y9).t = yT at hT hyy hinv
      refine vcC_ok _ _ _ _ _ ?_
      conv => whnf
      refine ⟨fun _ => ?_, fun h1 => absurd (of_decide_eq_false h1) (by omega)⟩
      conv => whnf
      refine ⟨fun q5 => ?_, fun q5 => ?_⟩
      · have hk5 : xk = 5 := by simpa using q5
        have hkx := hka hk5
        have hky := hkb hk5
        obtain ⟨kx, hkx⟩ : ∃ k, xs[i]? = some k := ⟨_, List.getElem?_eq_getElem (by omega)⟩
        obtain ⟨ky, hky⟩ : ∃ k, ys[i]? = some k := ⟨_, List.getElem?_eq_getElem (by omega)⟩
        rw [hkx, hky, if_pos (decide_eq_true hk5), Option.getD_some, Option.getD_some] at hinv
        obtain ⟨ka, rfl, hrka⟩ := (ak.mono hg1).at_ encK_len hkx
        obtain ⟨kb, rfl, hrkb⟩ := (bk.mono hg1).at_ encK_len hky
        conv => whnf
        refine COK.draw [0, 1] (by kernel_rfl) (by kernel_rfl) ?_
        conv => whnf
        refine ⟨⟨by omega, by omega⟩, ?_⟩
        conv => whnf
        refine YN.load rfl rfl rfl (v := .string (str kx)) (Reads.at0 hrka) ?_
        conv => whnf
        refine ⟨⟨by omega, by omega⟩, ?_⟩
        conv => whnf
        refine YN.load rfl rfl rfl (v := .string (str ky)) (Reads.at0 hrkb) ?_
        conv => whnf
        refine OOK.call [] rfl rfl rfl (by kernel_rfl) rfl (f_compare g1 kx ky) (by decide) rfl ?_
        rintro v_ g2 m_ hg2 ⟨rfl, rfl⟩
        conv => whnf
        refine ⟨⟨rfl, rfl, trivial⟩, ?_⟩
        conv => whnf
        refine ⟨fun q6 => ?_, fun q6 => ?_⟩
        · have h6 : cmpB kx ky ≠ 0 := by simpa using q6
          rw [if_pos h6] at hinv
          have hf : R = cmpB kx ky := by rw [hR, hinv, if_pos h6]
          conv => whnf
          exact .mk ⟨_, [], _, rfl, by decide, rfl, trivial, int_eq hf.symm, rfl⟩
        · have h6 : cmpB kx ky = 0 := by simpa using q6
          rw [if_neg (by simp [h6])] at hinv
          conv => whnf
          refine COK.draw [0, 1] (by kernel_rfl) (by kernel_rfl) ?_
          conv => whnf
          refine ⟨⟨by omega, by omega⟩, ?_⟩
          conv => whnf
          refine YN.loads rfl rfl rfl (hra.mono hg2) ?_
          conv => whnf
          refine ⟨⟨by omega, by omega⟩, ?_⟩
          conv => whnf
          refine YN.loads rfl rfl rfl (hrb.mono hg2) ?_
          conv => whnf
          refine OOK.call [] rfl rfl rfl (by kernel_rfl) rfl (hT g2 (hg1.trans hg2)) (by decide) rfl ?_
          rintro v_ g9 m_ hg9 ⟨rfl, rfl⟩
          conv => whnf
          refine ⟨⟨rfl, rfl, trivial⟩, ?_⟩
          conv => whnf
          refine ⟨fun q7 => ?_, fun q7 => ?_⟩
          · have h7 : xT.ord yT ≠ 0 := by simpa using q7
            rw [if_pos h7] at hinv
            have hf : R = xT.ord yT := by rw [hR, hinv, if_pos h7]
            conv => whnf
            exact .mk ⟨_, [], _, rfl, by decide, rfl, trivial, int_eq hf.symm, rfl⟩
          · have h7 : xT.ord yT = 0 := by simpa using q7
            rw [if_neg (by simp [h7])] at hinv
            conv => whnf
            exact ⟨i + 1, [0, 1], Sub.of (by decide) rfl ⟨rfl, rfl, rfl, rfl, int_eq (i64_in (by omega) (by omega)), trivial⟩, ⟨hlx, hly, hinv⟩, by omega⟩
      · have hk5 : xk ≠ 5 := by simpa using q5
        rw [if_neg (by simp [hk5] : ¬ (decide (xk = 5)) = true), if_neg (by simp)] at hinv
        conv => whnf
        refine COK.draw [0, 1] (by kernel_rfl) (by kernel_rfl) ?_
        conv => whnf
        refine ⟨⟨by omega, by omega⟩, ?_⟩
        conv => whnf
        refine YN.loads rfl rfl rfl hra ?_
        conv => whnf
        refine ⟨⟨by omega, by omega⟩, ?_⟩
        conv => whnf
        refine YN.loads rfl rfl rfl hrb ?_
        conv => whnf
        refine OOK.call [] rfl rfl rfl (by kernel_rfl) rfl (hT g1 hg1) (by decide) rfl ?_
        rintro v_ g9 m_ hg9 ⟨rfl, rfl⟩
        conv => whnf
        refine ⟨⟨rfl, rfl, trivial⟩, ?_⟩
        conv => whnf
        refine ⟨fun q7 => ?_, fun q7 => ?_⟩
        · have h7 : xT.ord yT ≠ 0 := by simpa using q7
          rw [if_pos h7] at hinv
          have hf : R = xT.ord yT := by rw [hR, hinv, if_pos h7]
          conv => whnf
          exact .mk ⟨_, [], _, rfl, by decide, rfl, trivial, int_eq hf.symm, rfl⟩
        · have h7 : xT.ord yT = 0 := by simpa using q7
          rw [if_neg (by simp [h7])] at hinv
          conv => whnf
          exact ⟨i + 1, [0, 1], Sub.of (by decide) rfl ⟨rfl, rfl, rfl, rfl, int_eq (i64_in (by omega) (by omega)), trivial⟩, ⟨hlx, hly, hinv⟩, by omega⟩
    · have he : xl.length ≤ i ∨ yl.length ≤ i := by omega
      rw [ordI_end (by simpa using he)] at hinv
      rw [if_neg (by simp [hinv])] at hR
      refine vcC_ok _ _ _ _ _ ?_
      conv => whnf
      refine ⟨fun h1 => absurd (of_decide_eq_true h1) (by omega), fun _ => ?_⟩
      conv => whnf
      refine OOK.call [] rfl rfl rfl (by kernel_rfl) rfl (f_cmpL g1 xl.length yl.length) (by decide) rfl ?_
      rintro v_ g2 m_ hg2 ⟨rfl, rfl⟩
      conv => whnf
      exact .mk ⟨_, [], _, rfl, by decide, rfl, trivial, int_eq hR.symm, rfl⟩
end Go.Proofs.YthkfnmmbjoadbaaGreatDoor
/- WholeTexts: numbers, as bytes. -/
set_option linter.unusedVariables false
set_option linter.unusedSimpArgs false
set_option maxRecDepth 100000
namespace Go.Proofs.YthkfnmmbjoadbaaGreatDoor
open Go Go.SX

theorem f_cloneB (g : GH) (A : Option Addr) (c : Nat) (l : List UInt8) (hA : Row g encB A l) (hl : l.length ≤ 100000) :
    Tri Tryz.prog 47 [.slice A l.length c] g [] fun v g' m' => ∃ s A' c', OwnAt 5 1 encB l s A' c' ∧ v = .slice A' l.length c' ∧ m' = [s] := by
  have hlen := flat_len encB_len l
  refine Tri.cok [.val (.slice A l.length c)] Tryz.func47 rfl Tryz.ntmps47 rfl rfl ?_
  refine COK.dummy 0 ?_
  cases A with
  | none =>
    have : l = [] := by
      cases l with
      | nil => rfl
      | cons x r => obtain ⟨a, h, _⟩ := hA (by simp); cases h
    subst this
    refine vcC_ok _ _ _ _ _ ?_
    conv => whnf
    refine ⟨fun _ => ?_, fun q => by cases q⟩
    conv => whnf
    exact .mk ⟨_, [0], _, rfl, by decide, rfl, trivial, ⟨0, .dead⟩, none, 0, .nil _ rfl, rfl, rfl⟩
  | some a =>
    refine vcC_ok _ _ _ _ _ ?_
    conv => whnf
    refine ⟨(by intro q; cases q), fun _ => ?_⟩
    conv => whnf
    intro b
    conv => whnf
    by_cases h0 : l = []
    · subst h0
      refine OOK.appendNone rfl rfl rfl rfl (.inl ⟨_, rfl⟩) rfl (size := 1) (bytes := 1) rfl rfl (Src.nil') ?_
      conv => whnf
      exact .mk ⟨_, [1], _, rfl, by decide, rfl, trivial, _, some ⟨b, 0, none⟩, 0, .own b 0 [] rfl (Nat.le_refl _), rfl, rfl⟩
    · obtain ⟨a', ha, hr⟩ := hA h0
      obtain rfl := Option.some.inj ha
      have hpos : 0 < l.length := List.length_pos_iff.2 h0
      refine OOK.appendNew (old := []) (ys := l.flatMap encB) (k := l.length) rfl rfl rfl rfl (.inl ⟨_, rfl⟩) rfl (size := 1) (bytes := 1) rfl rfl rfl (by decide) rfl Src.nil' rfl hlen (by omega) (Src.reads hlen hr) (by omega) ?_
      intro b' c' rest hle hlc
      conv => whnf
      exact .mk ⟨_, [2], _, rfl, by decide, rfl, trivial, _, some ⟨b', 0, none⟩, c', .own b' c' rest (by simpa using hlc) (by omega), by rw [Nat.zero_add]; rfl, rfl⟩

/-- The row that comes back is known for good. -/
theorem _root_.Go.SX.Tri.rowOut {P : Program} {f : FuncId} {args : List Value} {g : GH} {α : Type} {el size : Nat} {enc : α → List Value} {l : List α} {F : Option Addr → Nat → Value}
    (h : Tri P f args g [] fun v g' m' => ∃ s A c, OwnAt el size enc l s A c ∧ v = F A c ∧ m' = [s]) : Tri P f args g [] fun v g' m' => ∃ A c b, v = F A c ∧ Row g' enc A l ∧ l.length ≤ c ∧ m' = [⟨b, .dead⟩] := by
  intro w hw
  refine (h w hw).mono ?_
  rintro en w' ⟨v, g', m', rfl, ⟨s, A, c, hO, rfl, rfl⟩, he, hw', hfr⟩
  cases hO with
  | nil b h0 => exact ⟨_, g', _, rfl, ⟨none, 0, b, rfl, fun hne => absurd h0 hne, by rw [h0]; exact Nat.le_refl _, rfl⟩, he, hw', hfr⟩
  | own b c rest h1 h2 =>
    have k1 := hw'.freeze (k := 0) rfl rfl
    have k2 := Fr.freeze hw' (k := 0) rfl rfl
    exact ⟨_, _, _, rfl, ⟨_, c, b, rfl, row_of (el := el) (rest := rest) (by simp), h2, rfl⟩, fun k s hs => by simp at hs, k1, hfr.trans k2⟩
def vint (u : Nat) : List UInt8 := if u < 128 then [UInt8.ofNat u] else UInt8.ofNat (u % 128 + 128) :: vint (u / 128)
def zz (n : Int) : Nat := if n < 0 then (2 * (-n - 1) + 1).toNat else (2 * n).toNat
theorem vint_len : ∀ (k u : Nat), u < 128 ^ (k + 1) → (vint u).length ≤ k + 1
  | 0, u, h => by rw [vint, if_pos (by omega)]; simp
  | k + 1, u, h => by
    rw [vint]
    split
    · simp
    · have := vint_len k (u / 128) (by rw [Nat.div_lt_iff_lt_mul (by omega)]; rw [Nat.pow_succ] at h; omega)
      simp only [List.length_cons]
      omega
theorem vint_len10 {u : Nat} (h : u < 18446744073709551616) : (vint u).length ≤ 10 := vint_len 9 u (Nat.lt_of_lt_of_le h (by decide))
theorem vint_pos (u : Nat) : 0 < (vint u).length := by
  rw [vint]
  split <;> simp
theorem zz_lt {n : Int} (h1 : -9223372036854775808 ≤ n) (h2 : n ≤ 9223372036854775807) : zz n < 18446744073709551616 := by unfold zz; split <;> omega
theorem u8_last {n : Nat} (h : n < 256) : encB (UInt8.ofNat n) = [.int .u8 (n : Int)] := by
  unfold encB
  rw [UInt8.toNat_ofNat_of_lt' (by exact h)]
theorem u64w (x : Int) : IntKind.u64.wrap x = x % 18446744073709551616 := by simp [IntKind.wrap, IntKind.bits, IntKind.signed]
theorem zz_xor {n : Int} (h1 : -9223372036854775808 ≤ n) (h2 : n ≤ 9223372036854775807) :
    IntKind.u64.wrap ↑(BitVec.ofInt IntKind.u64.bits (IntKind.u64.wrap (IntKind.u64.wrap n * 2 ^ min (Int.toNat 1) IntKind.u64.bits)) ^^^ BitVec.ofInt IntKind.u64.bits (IntKind.u64.wrap (n.fdiv (2 ^ min (Int.toNat 63) IntKind.i64.bits)))).toNat = (zz n : Int) := by
  have e1 : (2 : Int) ^ min (Int.toNat 1) IntKind.u64.bits = 2 := rfl
  have e2 : n.fdiv (2 ^ min (Int.toNat 63) IntKind.i64.bits) = if n < 0 then -1 else 0 := by
    show n.fdiv 9223372036854775808 = _
    rw [Int.fdiv_eq_ediv_of_nonneg _ (by decide)]
    split <;> omega
  rw [e1, e2, u64w, u64w n]
  show ((BitVec.ofInt 64 _ ^^^ BitVec.ofInt 64 _).toNat : Int) % _ = _
  unfold zz
  have hx : IntKind.u64.wrap (n % 18446744073709551616 * 2) = (2 * n) % 18446744073709551616 := by rw [u64w]; omega
  rw [hx]
  split
  · rw [show IntKind.u64.wrap (-1) = 18446744073709551615 from by decide, show BitVec.ofInt 64 18446744073709551615 = BitVec.allOnes 64 from by decide, BitVec.xor_allOnes, BitVec.toNat_not, BitVec.toNat_ofInt]
    omega
  · rw [show IntKind.u64.wrap 0 = 0 from by decide, show BitVec.ofInt 64 0 = 0#64 from by decide, BitVec.xor_zero, BitVec.toNat_ofInt]
    omega
theorem u8_or : ∀ n : Fin 256, IntKind.u8.wrap ↑(BitVec.ofInt IntKind.u8.bits (n.val : Int) ||| BitVec.ofInt IntKind.u8.bits 128).toNat = ((n.val % 128 + 128 : Nat) : Int) := by decide +kernel
theorem u8w (x : Int) : IntKind.u8.wrap x = x % 256 := by simp [IntKind.wrap, IntKind.bits, IntKind.signed]
theorem zz_or {n : Int} (h1 : -9223372036854775808 ≤ n) (h0 : n < 0) :
    IntKind.u64.wrap ↑(BitVec.ofInt IntKind.u64.bits (IntKind.u64.wrap (IntKind.u64.wrap (-(n + 1)) * 2 ^ min (Int.toNat 1) IntKind.u64.bits)) ||| BitVec.ofInt IntKind.u64.bits 1).toNat = (zz n : Int) := by
  have e1 : (2 : Int) ^ min (Int.toNat 1) IntKind.u64.bits = 2 := rfl
  rw [e1, u64w, u64w (-(n + 1))]
  show ((BitVec.ofInt 64 _ ||| BitVec.ofInt 64 _).toNat : Int) % _ = _
  unfold zz
  rw [if_pos h0]
  have hx : IntKind.u64.wrap (-(n + 1) % 18446744073709551616 * 2) = 2 * (-n - 1) := by rw [u64w]; omega
  rw [hx, BitVec.toNat_or, BitVec.toNat_ofInt, BitVec.toNat_ofInt]
  obtain ⟨k, hk⟩ : ∃ k : Nat, -n - 1 = k := ⟨(-n - 1).toNat, by omega⟩
  rw [hk]
  have e2 : ((2 * (k : Int)) % (2 ^ 64 : Nat)).toNat = 2 ^ 1 * k := by omega
  have e3 : ((1 : Int) % (2 ^ 64 : Nat)).toNat = 1 := by decide
  rw [e2, e3, ← Nat.two_pow_add_eq_or_of_lt (by decide)]
  omega
theorem zz_shl {n : Int} (h0 : 0 ≤ n) (h1 : n ≤ 9223372036854775807) : IntKind.u64.wrap (IntKind.u64.wrap n * 2 ^ min (Int.toNat 1) IntKind.u64.bits) = (zz n : Int) := by
  have e1 : (2 : Int) ^ min (Int.toNat 1) IntKind.u64.bits = 2 := rfl
  rw [e1, u64w, u64w]
  unfold zz
  rw [if_neg (by omega)]
  omega
theorem vint_byte (u : Nat) (h : u < 18446744073709551616) : IntKind.u8.wrap ↑(BitVec.ofInt IntKind.u8.bits (IntKind.u8.wrap (u : Int)) ||| BitVec.ofInt IntKind.u8.bits 128).toNat = ((u % 128 + 128 : Nat) : Int) := by
  rw [u8w (u : Int), show (u : Int) % 256 = ((⟨u % 256, by omega⟩ : Fin 256).val : Int) by simp, u8_or]
  simp only
  omega
theorem shr7 (u : Nat) : ((u : Int)).fdiv (2 ^ min (Int.toNat 7) IntKind.u64.bits) = ((u / 128 : Nat) : Int) := by
  show ((u : Int)).fdiv 128 = _
  rw [Int.fdiv_eq_ediv_of_nonneg _ (by decide)]
  omega
theorem slice_eq {A : Option Addr} {a b c : Nat} (h : a = b) : Value.slice A a c = Value.slice A b c := by rw [h]
structure Vi where
  u : Nat
  done : List UInt8
  s : Slot
  A : Option Addr
  c : Nat
theorem f_putint (g : GH) (A : Option Addr) (c : Nat) (l : List UInt8) (n : Int) (hA : Row g encB A l) (hl : l.length ≤ 90000) (h1 : -9223372036854775808 ≤ n) (h2 : n ≤ 9223372036854775807) :
    Tri Tryz.prog 85 [.slice A l.length c, .int .i64 n] g [] fun v g' m' => ∃ s A' c', OwnAt 5 1 encB (l ++ vint (zz n)) s A' c' ∧ v = .slice A' (l.length + (vint (zz n)).length) c' ∧ m' = [s] := by
  refine Tri.cok [.val (.slice A l.length c), .val (.int .i64 n)] Tryz.func85 rfl Tryz.ntmps85 rfl rfl ?_
  refine COK.seq (vcC_ok _ _ _ _ _ ?_)
  conv => whnf
  refine COK.seq (vcC_ok _ _ _ _ _ ?_)
  conv => whnf
  refine OOK.call [] rfl rfl rfl (by kernel_rfl) rfl (f_cloneB g A c l hA (by omega)) (by decide) rfl ?_
  rintro v_ g1 m_ hg1 ⟨s, A', c', hO, rfl, rfl⟩
  conv => whnf
  refine COK.seq (vcC_ok _ _ _ _ _ ?_)
  conv => whnf
  rw [zz_xor h1 h2]
  have hz := zz_lt h1 h2
  have hvl := vint_len10 hz
  generalize zz n = z at *
  refine vcC_ok _ _ _ _ _ ?_
  conv => whnf
  refine COK.loop (α := Vi) (fun x => [(5, .val (.slice x.A (l ++ x.done).length x.c)), (6, .val (.int .u64 (x.u : Int)))]) (fun x => [x.s]) (fun x _ => OwnAt 5 1 encB (l ++ x.done) x.s x.A x.c ∧ x.done ++ vint x.u = vint z ∧ x.u < 18446744073709551616) (fun x => x.u) ⟨z, [], s, A', c'⟩ [0] (Sub.of (by decide) rfl ⟨slice_eq (A := A') (a := l.length) (b := (l ++ ([] : List UInt8)).length) (c := c') (by rw [List.append_nil]), rfl, trivial⟩) ⟨by rw [List.append_nil]; exact hO, rfl, hz⟩ ?_
  rintro ⟨u, done, s, A, c⟩ g2 hg2 ⟨hO, hd, hu⟩
  have hdl : done.length + (vint u).length = (vint z).length := by rw [← hd, List.length_append]
  have hup := vint_pos u
  have hll : (l ++ done).length ≤ 90010 := by rw [List.length_append]; omega
  dsimp only at hO hd hu ⊢
  refine vcC_ok _ _ _ _ _ ?_
  conv => whnf
  refine ⟨fun q => ?_, fun q => ?_⟩
  · have q1 : 128 ≤ u := Int.ofNat_le.1 (of_decide_eq_true q)
    have e := vint_byte u hu
    conv => whnf
    intro bl
    conv => whnf
    refine OOK.appendRowB (UInt8.ofNat (u % 128 + 128)) 0 encB_len rfl rfl rfl rfl (.inl ⟨_, rfl⟩) rfl (size := 1) (bytes := 1) rfl rfl rfl (by decide) rfl rfl hO (Src.own (i := 1) (q := 0) rfl rfl (fun j v hj => by rw [u8_last (by omega), ← e] at hj; rw [Nat.zero_add]; exact hj)) (encB_one _) (by omega) ?_
    intro s' A' c' hO'
    conv => whnf
    refine ⟨⟨u / 128, done ++ [UInt8.ofNat (u % 128 + 128)], s', A', c'⟩, [2], Sub.of (by decide) rfl ⟨slice_eq (A := A') (a := (l ++ done).length + 1) (b := (l ++ (done ++ [UInt8.ofNat (u % 128 + 128)])).length) (c := c') (by rw [← List.append_assoc, List.length_append (bs := [_])]; rfl), int_eq (shr7 u), trivial⟩, ⟨by rw [← List.append_assoc]; exact hO', ?_, by show u / 128 < _; omega⟩, by show u / 128 < u; omega⟩
    show (done ++ [_]) ++ vint (u / 128) = _
    rw [← hd, vint.eq_def u, if_neg (by omega), List.append_assoc]
    rfl
  · have q1 : u < 128 := by have := of_decide_eq_false q; omega
    conv => whnf
    intro bl
    conv => whnf
    refine OOK.appendRowB (UInt8.ofNat u) 0 encB_len rfl rfl rfl rfl (.inl ⟨_, rfl⟩) rfl (size := 1) (bytes := 1) rfl rfl rfl (by decide) rfl rfl hO (Src.own (i := 1) (q := 0) rfl rfl (fun j v hj => by rw [u8_last (by omega), show (u : Int) = IntKind.u8.wrap (u : Int) by rw [u8w]; omega] at hj; rw [Nat.zero_add]; exact hj)) (encB_one _) (by omega) ?_
    intro s' A' c' hO'
    conv => whnf
    have hv : vint u = [UInt8.ofNat u] := by rw [vint, if_pos q1]
    refine .mk ⟨_, [2], _, rfl, by decide, rfl, trivial, s', A', c', by rw [← hd, hv, ← List.append_assoc]; exact hO', slice_eq (by rw [← hd, hv, List.length_append, List.length_append, Nat.add_assoc]; rfl), rfl⟩
theorem f_puttext (g : GH) (A : Option Addr) (c : Nat) (l x : List UInt8) (hA : Row g encB A l) (hl : l.length ≤ 89000) (hx : x.length ≤ 5000) :
    Tri Tryz.prog 86 [.slice A l.length c, .string (str x)] g [] fun v g' m' => ∃ s A' c', OwnAt 5 1 encB (l ++ vint (zz x.length) ++ x) s A' c' ∧ v = .slice A' (l ++ vint (zz x.length) ++ x).length c' ∧ m' = [s] := by
  have hz := vint_len10 (zz_lt (n := (x.length : Int)) (by omega) (by omega))
  refine Tri.cok [.val (.slice A l.length c), .val (.string (str x))] Tryz.func86 rfl Tryz.ntmps86 rfl rfl ?_
  refine COK.seq (vcC_ok _ _ _ _ _ ?_)
  conv => whnf
  refine COK.seq (vcC_ok _ _ _ _ _ ?_)
  conv => whnf
  rw [str_size]
  refine OOK.call [] rfl rfl rfl (by kernel_rfl) rfl (f_putint g A c l x.length hA (by omega) (by omega) (by omega)) (by decide) rfl ?_
  rintro v_ g1 m_ hg1 ⟨s, A', c', hO, rfl, rfl⟩
  conv => whnf
  rw [← List.length_append]
  by_cases h0 : x = []
  · subst h0
    have hn := hO.le
    refine OOK.append0 rfl rfl rfl rfl (.inr rfl) rfl (src_str []) hn ?_
    conv => whnf
    refine COK.ret ?_
    exact .mk ⟨_, [0], _, rfl, by decide, rfl, trivial, s, A', c', by rw [List.append_nil]; exact hO, by rw [List.append_nil] <;> rfl, rfl⟩
  · refine OOK.appendRowN x 0 encB_len rfl rfl rfl rfl (.inr rfl) rfl (size := 1) (bytes := 1) rfl rfl rfl (by decide) rfl rfl hO (src_str x) (bytes_one x) (by rw [List.length_append]; omega) (List.length_pos_iff.2 h0) ?_
    intro s' A' c' hO'
    conv => whnf
    refine COK.ret ?_
    exact .mk ⟨_, [1], _, rfl, by decide, rfl, trivial, s', A', c', hO', slice_eq (by rw [List.length_append (bs := x)]), rfl⟩
mutual
def T.enc : T → List UInt8
  | .mk k i s l ks => vint (zz k) ++ (if k = 1 ∨ k = 2 then vint (zz i) else if k = 3 then vint (zz s.length) ++ s else (if k = 4 ∨ k = 5 then vint (zz l.length) else []) ++ encs (decide (k = 5)) l ks)
def encs (m : Bool) : List T → List (List UInt8) → List UInt8
  | [], _ => []
  | x :: l, ks => (if m then vint (zz (ks.headD []).length) ++ ks.headD [] else []) ++ x.enc ++ encs m l ks.tail
end
theorem encs_take {m : Bool} {x : T} : ∀ {l : List T} {ks : List (List UInt8)} {i : Nat}, l[i]? = some x → encs m (l.take (i + 1)) ks = encs m (l.take i) ks ++ (if m then vint (zz (ks[i]?.getD []).length) ++ ks[i]?.getD [] else []) ++ x.enc
  | [], _, i, h => by simp at h
  | y :: l, ks, 0, h => by
    obtain rfl : y = x := by simpa using h
    rw [List.take_succ_cons, List.take_zero, encs, encs, List.take_zero, encs, List.append_nil, List.nil_append]
    simp [List.headD_eq_head?_getD, List.head?_eq_getElem?]
  | y :: l, ks, i + 1, h => by
    rw [List.take_succ_cons, encs, encs_take (i := i) (by simpa using h), List.take_succ_cons, encs]
    simp [List.append_assoc]
theorem encs_pre (m : Bool) : ∀ (l : List T) (ks : List (List UInt8)) (i : Nat), (encs m (l.take i) ks).length ≤ (encs m l ks).length
  | [], _, i => by rw [List.take_nil]; exact Nat.le_refl _
  | y :: l, ks, 0 => by rw [List.take_zero, encs]; exact Nat.zero_le _
  | y :: l, ks, i + 1 => by
    have := encs_pre m l ks.tail i
    rw [List.take_succ_cons, encs, encs, List.length_append, List.length_append (bs := encs m l ks.tail)]
    omega
def encN : Nat → Nat
  | 0 => 26
  | d + 1 => 4 * encN d + 84
theorem encN_lo : ∀ d, 26 ≤ encN d
  | 0 => Nat.le_refl _
  | d + 1 => by unfold encN; omega
theorem zzl {n : Nat} (h : n ≤ 100000) : (vint (zz (n : Int))).length ≤ 10 := vint_len10 (zz_lt (by omega) (by omega))
theorem encs_len (m : Bool) (B : Nat) : ∀ (l : List T) (ks : List (List UInt8)), (∀ x ∈ l, x.enc.length ≤ B) → (∀ k ∈ ks, k.length ≤ 6) → (encs m l ks).length ≤ l.length * (B + 16)
  | [], _, _, _ => by rw [encs]; simp
  | x :: l, ks, h1, h2 => by
    have h3 := encs_len m B l ks.tail (fun y hy => h1 y (List.mem_cons_of_mem _ hy)) (fun k hk => h2 k (List.mem_of_mem_tail hk))
    have h4 := h1 x List.mem_cons_self
    have h5 : (ks.headD []).length ≤ 6 := by
      cases ks with
      | nil => simp
      | cons k r => exact h2 k List.mem_cons_self
    have h6 := zzl (n := (ks.headD []).length) (by omega)
    rw [encs, List.length_append, List.length_append, List.length_cons, Nat.add_mul]
    split
    · rw [List.length_append]; omega
    · simp only [List.length_nil]; omega
theorem enc_len (t : T) : ∀ (d : Nat), WF d t → t.enc.length ≤ encN d := by
  induction t using T.ind with
  | h kind int text items keys ih =>
    intro d hw
    have hlo := encN_lo d
    rw [T.enc, List.length_append]
    rcases hw.inv with ⟨rfl, rfl, rfl, rfl, rfl⟩ | ⟨rfl, hb, rfl, rfl, rfl⟩ | ⟨rfl, h1, h2, rfl, rfl, rfl⟩ | ⟨rfl, rfl, hl, rfl, rfl⟩ | ⟨d', rfl, rfl, rfl, rfl, rfl, hl, hi⟩ | ⟨d', rfl, rfl, rfl, rfl, hkl, hl, hs, h6, hi⟩
    · have := zzl (n := 0) (by omega)
      rw [if_neg (by decide), if_neg (by decide), if_neg (by decide), encs]
      simp only [List.append_nil, List.length_nil]
      have e : ((0 : Nat) : Int) = 0 := rfl
      rw [e] at this
      omega
    · have := zzl (n := 1) (by omega)
      have h3 := vint_len10 (zz_lt (n := int) (by omega) (by omega))
      rw [if_pos (by decide)]
      have e : ((1 : Nat) : Int) = 1 := rfl
      rw [e] at this
      omega
    · have := zzl (n := 2) (by omega)
      have h3 := vint_len10 (zz_lt h1 h2)
      rw [if_pos (by decide)]
      have e : ((2 : Nat) : Int) = 2 := rfl
      rw [e] at this
      omega
    · have := zzl (n := 3) (by omega)
      have h3 := zzl (n := text.length) (by omega)
      rw [if_neg (by decide), if_pos (by decide), List.length_append]
      have e : ((3 : Nat) : Int) = 3 := rfl
      rw [e] at this
      omega
    · have := zzl (n := 4) (by omega)
      have h3 := zzl (n := items.length) (by omega)
      have h4 := encs_len (decide ((4 : Int) = 5)) (encN d') items [] (fun x hx => ih x hx d' (hi x hx)) (fun k hk => by cases hk)
      rw [if_neg (by decide), if_neg (by decide), if_pos (by decide), List.length_append]
      have e : ((4 : Nat) : Int) = 4 := rfl
      rw [e] at this
      have h5 : items.length * (encN d' + 16) ≤ 4 * (encN d' + 16) := Nat.mul_le_mul_right _ hl
      show _ ≤ 4 * encN d' + 84
      omega
    · have := zzl (n := 5) (by omega)
      have h3 := zzl (n := items.length) (by omega)
      have h4 := encs_len (decide ((5 : Int) = 5)) (encN d') items keys (fun x hx => ih x hx d' (hi x hx)) h6
      rw [if_neg (by decide), if_neg (by decide), if_pos (by decide), List.length_append]
      have e : ((5 : Nat) : Int) = 5 := rfl
      rw [e] at this
      have h5 : items.length * (encN d' + 16) ≤ 4 * (encN d' + 16) := Nat.mul_le_mul_right _ hl
      show _ ≤ 4 * encN d' + 84
      omega
end Go.Proofs.YthkfnmmbjoadbaaGreatDoor
/- WholeTexts: the encoding of a payload. -/
set_option linter.unusedVariables false
set_option linter.unusedSimpArgs false
set_option maxRecDepth 100000
namespace Go.Proofs.YthkfnmmbjoadbaaGreatDoor
open Go Go.SX

structure Rs where
  A : Option Addr
  c : Nat
structure Es where
  i : Nat
  A : Option Addr
  c : Nat
def preE (k i : Int) (s : List UInt8) (n : Nat) : List UInt8 := vint (zz k) ++ (if k = 4 ∨ k = 5 then vint (zz n) else [])
theorem f_enc (v : Val) : ∀ (d : Nat) (g : GH) (A : Option Addr) (c : Nat) (l : List UInt8), Row g encB A l → v.Ok g → WF d v.t → l.length + v.t.enc.length ≤ 80000 → Tri Tryz.prog 49 [.slice A l.length c, v.val] g [] fun v' g' m' => ∃ A' c', v' = .slice A' (l ++ v.t.enc).length c' ∧ Row g' encB A' (l ++ v.t.enc) ∧ m' = [] := by
  induction v using Val.ind with
  | h kind int text items iA ic keys kA kc ih =>
    intro d g A c l hA hv hw hle
    obtain ⟨hi, hk, hic, hkc, hb, hit⟩ := hv
    rw [Val.t_mk] at hw hle ⊢
    have hkl := hw.keysL
    have hit2 := hw.items
    have hinv := hw.inv
    rw [T.enc] at hle ⊢
    obtain ⟨its, hits⟩ : ∃ its, its = items.map Val.t := ⟨_, rfl⟩
    have hil : its.length = items.length := by rw [hits, List.length_map]
    rw [← hits] at hle hinv ⊢
    obtain ⟨E, hE⟩ : ∃ E, E = vint (zz kind) ++ (if kind = 1 ∨ kind = 2 then vint (zz int) else if kind = 3 then vint (zz text.length) ++ text else (if kind = 4 ∨ kind = 5 then vint (zz its.length) else []) ++ encs (decide (kind = 5)) its keys) := ⟨_, rfl⟩
    rw [← hE] at hle ⊢
    refine Tri.cok [.val (.slice A l.length c), .val (Val.mk kind int text items iA ic keys kA kc).val] Tryz.func49 rfl Tryz.ntmps49 rfl rfl ?_
    refine COK.seq (vcC_ok _ _ _ _ _ ?_)
    conv => whnf
    intro b1
    conv => whnf
    refine COK.seq (vcC_ok _ _ _ _ _ ?_)
    conv => whnf
    have hkr : -9223372036854775808 ≤ kind ∧ kind ≤ 9223372036854775807 := by rcases hinv with ⟨h, _⟩ | ⟨h, _⟩ | ⟨h, _⟩ | ⟨h, _⟩ | ⟨_, _, h, _⟩ | ⟨_, _, h, _⟩ <;> omega
    refine OOK.call [] rfl rfl rfl (by kernel_rfl) rfl ((f_putint g A c l kind hA (by omega) hkr.1 hkr.2).rowOut (F := fun A c => .slice A (l.length + (vint (zz kind)).length) c)) (by decide) rfl ?_
    rintro v_ g2 m_ hg2 ⟨A1, c1, d1, rfl, hR, hc1, rfl⟩
    conv => whnf
    rw [← List.length_append]
    have hg02 := hg2
    have hEl : (l ++ vint (zz kind)).length ≤ 80000 := by rw [hE, List.length_append] at hle; rw [List.length_append]; omega
    refine COK.seq (COK.cut (α := Rs) (fun y => [(0, .val (.slice y.A (l ++ preE kind int text its.length).length y.c)), (3, .own 0 0)]) (fun _ => [⟨b1, .cells (Val.mk kind int text items iA ic keys kA kc).cells 28 (0, 0)⟩]) (fun y g' => Row g' encB y.A (l ++ preE kind int text its.length) ∧ (kind ≠ 1 ∧ kind ≠ 2 ∧ kind ≠ 3)) ?_ ?_)
    · rcases hinv with ⟨rfl, rfl, rfl, rfl, rfl⟩ | ⟨rfl, hb, rfl, rfl, rfl⟩ | ⟨rfl, h1, h2, rfl, rfl, rfl⟩ | ⟨rfl, rfl, hl, rfl, rfl⟩ | ⟨d', rfl, rfl, rfl, rfl, rfl, hl, hi'⟩ | ⟨d', rfl, rfl, rfl, rfl, hkl, hl, hs, h6, hi'⟩
      · refine vcC_ok _ _ _ _ _ ?_
        conv => whnf
        refine ⟨(by intro q; cases q), fun _ => ?_⟩
        conv => whnf
        refine ⟨(by intro q; cases q), fun _ => ?_⟩
        conv => whnf
        refine ⟨(by intro q; cases q), fun _ => ?_⟩
        conv => whnf
        refine ⟨(by intro q; cases q), fun _ => ?_⟩
        conv => whnf
        refine ⟨(by intro q; cases q), fun _ => ?_⟩
        conv => whnf
        refine ⟨(by intro q; cases q), fun _ => ?_⟩
        conv => whnf
        exact ⟨⟨A1, c1⟩, [0], Sub.of (by decide) rfl ⟨slice_eq (by unfold preE; rw [if_neg (by decide), List.append_nil]), rfl, trivial⟩, by unfold preE; rw [if_neg (by decide), List.append_nil]; exact hR, by decide⟩
      · refine vcC_ok _ _ _ _ _ ?_
        conv => whnf
        refine ⟨fun _ => ?_, (by intro q; cases q)⟩
        conv => whnf
        refine ⟨fun _ => ?_, (by intro q; cases q)⟩
        conv => whnf
        refine OOK.call [] rfl rfl rfl (by kernel_rfl) rfl ((f_putint g2 A1 c1 (l ++ vint (zz 1)) int hR (by omega) (by omega) (by omega)).rowOut (F := fun A c => .slice A ((l ++ vint (zz 1)).length + (vint (zz int)).length) c)) (by decide) rfl ?_
        rintro v_ g3 m_ hg3 ⟨A3, c3, d3, rfl, hR4, hc3, rfl⟩
        conv => whnf
        have hE' : E = vint (zz 1) ++ vint (zz int) := by rw [hE, if_pos (by decide)]
        exact .mk ⟨_, [], _, rfl, by decide, rfl, trivial, A3, c3, slice_eq (by rw [hE', ← List.append_assoc, List.length_append (bs := vint (zz int))]), by rw [hE', ← List.append_assoc]; exact hR4, rfl⟩
      · refine vcC_ok _ _ _ _ _ ?_
        conv => whnf
        refine ⟨(by intro q; cases q), fun _ => ?_⟩
        conv => whnf
        refine ⟨fun _ => ?_, (by intro q; cases q)⟩
        conv => whnf
        refine ⟨fun _ => ?_, (by intro q; cases q)⟩
        conv => whnf
        refine OOK.call [] rfl rfl rfl (by kernel_rfl) rfl ((f_putint g2 A1 c1 (l ++ vint (zz 2)) int hR (by omega) (by omega) (by omega)).rowOut (F := fun A c => .slice A ((l ++ vint (zz 2)).length + (vint (zz int)).length) c)) (by decide) rfl ?_
        rintro v_ g3 m_ hg3 ⟨A3, c3, d3, rfl, hR4, hc3, rfl⟩
        conv => whnf
        have hE' : E = vint (zz 2) ++ vint (zz int) := by rw [hE, if_pos (by decide)]
        exact .mk ⟨_, [], _, rfl, by decide, rfl, trivial, A3, c3, slice_eq (by rw [hE', ← List.append_assoc, List.length_append (bs := vint (zz int))]), by rw [hE', ← List.append_assoc]; exact hR4, rfl⟩
      · refine vcC_ok _ _ _ _ _ ?_
        conv => whnf
        refine ⟨(by intro q; cases q), fun _ => ?_⟩
        conv => whnf
        refine ⟨(by intro q; cases q), fun _ => ?_⟩
        conv => whnf
        refine ⟨(by intro q; cases q), fun _ => ?_⟩
        conv => whnf
        refine ⟨fun _ => ?_, (by intro q; cases q)⟩
        conv => whnf
        refine OOK.call [] rfl rfl rfl (by kernel_rfl) rfl ((f_puttext g2 A1 c1 (l ++ vint (zz 3)) text hR (by omega) (by omega)).rowOut (F := fun A c => .slice A (l ++ vint (zz 3) ++ vint (zz text.length) ++ text).length c)) (by decide) rfl ?_
        rintro v_ g3 m_ hg3 ⟨A3, c3, d3, rfl, hR4, hc3, rfl⟩
        conv => whnf
        have hE' : E = vint (zz 3) ++ (vint (zz text.length) ++ text) := by rw [hE, if_neg (by decide), if_pos (by decide)]
        exact .mk ⟨_, [], _, rfl, by decide, rfl, trivial, A3, c3, slice_eq (by rw [hE', ← List.append_assoc, ← List.append_assoc]), by rw [hE', ← List.append_assoc, ← List.append_assoc]; exact hR4, rfl⟩
      · refine vcC_ok _ _ _ _ _ ?_
        conv => whnf
        refine ⟨(by intro q; cases q), fun _ => ?_⟩
        conv => whnf
        refine ⟨(by intro q; cases q), fun _ => ?_⟩
        conv => whnf
        refine ⟨(by intro q; cases q), fun _ => ?_⟩
        conv => whnf
        refine ⟨(by intro q; cases q), fun _ => ?_⟩
        conv => whnf
        refine ⟨fun _ => ?_, (by intro q; cases q)⟩
        conv => whnf
        refine ⟨fun _ => ?_, (by intro q; cases q)⟩
        conv => whnf
        refine OOK.call [] rfl rfl rfl (by kernel_rfl) rfl ((f_putint g2 A1 c1 (l ++ vint (zz 4)) items.length hR (by omega) (by omega) (by omega)).rowOut (F := fun A c => .slice A ((l ++ vint (zz 4)).length + (vint (zz items.length)).length) c)) (by decide) rfl ?_
        rintro v_ g3 m_ hg3 ⟨A3, c3, d3, rfl, hR4, hc3, rfl⟩
        conv => whnf
        have hp : l ++ preE 4 0 [] its.length = l ++ vint (zz 4) ++ vint (zz items.length) := by unfold preE; rw [if_pos (by decide), hil, List.append_assoc]
        exact ⟨⟨A3, c3⟩, [0], Sub.of (by decide) rfl ⟨slice_eq (by rw [hp, List.length_append (bs := vint (zz items.length))]), rfl, trivial⟩, by rw [hp]; exact hR4, by decide⟩
      · refine vcC_ok _ _ _ _ _ ?_
        conv => whnf
        refine ⟨(by intro q; cases q), fun _ => ?_⟩
        conv => whnf
        refine ⟨(by intro q; cases q), fun _ => ?_⟩
        conv => whnf
        refine ⟨(by intro q; cases q), fun _ => ?_⟩
        conv => whnf
        refine ⟨(by intro q; cases q), fun _ => ?_⟩
        conv => whnf
        refine ⟨(by intro q; cases q), fun _ => ?_⟩
        conv => whnf
        refine ⟨fun _ => ?_, (by intro q; cases q)⟩
        conv => whnf
        refine OOK.call [] rfl rfl rfl (by kernel_rfl) rfl ((f_putint g2 A1 c1 (l ++ vint (zz 5)) items.length hR (by omega) (by omega) (by omega)).rowOut (F := fun A c => .slice A ((l ++ vint (zz 5)).length + (vint (zz items.length)).length) c)) (by decide) rfl ?_
        rintro v_ g3 m_ hg3 ⟨A3, c3, d3, rfl, hR4, hc3, rfl⟩
        conv => whnf
        have hp : l ++ preE 5 0 [] its.length = l ++ vint (zz 5) ++ vint (zz items.length) := by unfold preE; rw [if_pos (by decide), hil, List.append_assoc]
        exact ⟨⟨A3, c3⟩, [0], Sub.of (by decide) rfl ⟨slice_eq (by rw [hp, List.length_append (bs := vint (zz items.length))]), rfl, trivial⟩, by rw [hp]; exact hR4, by decide⟩
    rintro ⟨A3, c3⟩ g3 hg3 ⟨hR3, hk1, hk2, hk3⟩
    dsimp only at hR3 ⊢
    have hE' : E = preE kind int text its.length ++ encs (decide (kind = 5)) its keys := by
      rw [hE, if_neg (by omega), if_neg hk3]
      unfold preE
      rw [List.append_assoc]
    obtain ⟨p, hp⟩ : ∃ p, p = l ++ preE kind int text its.length := ⟨_, rfl⟩
    have hlE : l ++ E = p ++ encs (decide (kind = 5)) its keys := by rw [hE', hp, List.append_assoc]
    have hle2 : (p ++ encs (decide (kind = 5)) its keys).length ≤ 80000 := by rw [← hlE, List.length_append]; exact hle
    rw [hlE]
    rw [← hp] at hR3 ⊢
    refine vcC_ok _ _ _ _ _ ?_
    conv => whnf
    refine COK.loop (α := Es) (fun y => [(0, .val (.slice y.A (p ++ encs (decide (kind = 5)) (its.take y.i) keys).length y.c)), (3, .own 0 0), (36, .val (.slice iA items.length ic)), (37, .val (.int .i64 items.length)), (38, .val (.int .i64 y.i))]) (fun _ => [⟨b1, .cells (Val.mk kind int text items iA ic keys kA kc).cells 28 (0, 0)⟩]) (fun y g' => y.i ≤ items.length ∧ Row g' encB y.A (p ++ encs (decide (kind = 5)) (its.take y.i) keys)) (fun y => items.length - y.i) ⟨0, A3, c3⟩ [0] (Sub.of (by decide) rfl ⟨slice_eq (by rw [List.take_zero, encs, List.append_nil]), rfl, rfl, rfl, rfl, trivial⟩) ⟨Nat.zero_le _, by rw [List.take_zero, encs, List.append_nil]; exact hR3⟩ ?_
    rintro ⟨i, A5, c5⟩ g5 hg5 ⟨hi5, hR5⟩
    dsimp only at hi5 hR5 ⊢
    have hg05 := hg02.trans (hg3.trans hg5)
    by_cases hlt : i < items.length
    · obtain ⟨x, hx⟩ : ∃ x, items[i]? = some x := ⟨_, List.getElem?_eq_getElem hlt⟩
      have hmem := List.mem_of_getElem? hx
      obtain ⟨d', hdd, hl4, hwi⟩ : ∃ d', d = d' + 1 ∧ items.length ≤ 4 ∧ ∀ x ∈ items, WF d' x.t := by
        rcases hit2 with h | h
        · rw [h] at hlt; simp at hlt
        · exact h
      have hxx : its[i]? = some x.t := by rw [hits, List.getElem?_map, hx]; rfl
      have htk := encs_take (m := decide (kind = 5)) (ks := keys) hxx
      have hpre := encs_pre (decide (kind = 5)) its keys (i + 1)
      have hT := fun (q : List UInt8) (A : Option Addr) (c : Nat) (g' : GH) (hg' : g.le g') (hA : Row g' encB A q) (hq : q.length + x.t.enc.length ≤ 80000) => ih x hmem d' g' A c q hA ((hit x hmem).mono hg') (hwi x hmem) hq
      obtain ⟨a, rfl, hra⟩ := (hi.mono hg05).at_ Val.len hx
      obtain ⟨xk, xi, xt, xl, xA, xc, xs, xB, xd⟩ := x
      generalize (Val.mk xk xi xt xl xA xc xs xB xd).t = xT at hT hxx htk
      rw [List.length_append] at hle2
      rw [htk, List.length_append, List.length_append] at hpre
      obtain ⟨q, hq⟩ : ∃ q, q = p ++ encs (decide (kind = 5)) (its.take i) keys := ⟨_, rfl⟩
      have hql : q.length = p.length + (encs (decide (kind = 5)) (its.take i) keys).length := by rw [hq, List.length_append]
      rw [← hq] at hR5 ⊢
      refine vcC_ok _ _ _ _ _ ?_
      conv => whnf
      refine ⟨fun _ => ?_, fun h1 => absurd (of_decide_eq_false h1) (by omega)⟩
      conv => whnf
      refine ⟨⟨by omega, by omega⟩, ?_⟩
      conv => whnf
      refine OOK.yn (YN.loads rfl rfl rfl hra ?_)
      conv => whnf
      intro b6
      conv => whnf
      refine ⟨fun q5 => ?_, fun q5 => ?_⟩
      · have hk5 : kind = 5 := by simpa using q5
        have hkk := hkl hk5
        obtain ⟨k, hkx⟩ : ∃ k, keys[i]? = some k := ⟨_, List.getElem?_eq_getElem (by omega)⟩
        obtain ⟨ka, rfl, hrk⟩ := (hk.mono hg05).at_ encK_len hkx
        have hk6 : k.length ≤ 6 := by
          rcases hinv with ⟨h, _⟩ | ⟨h, _⟩ | ⟨h, _⟩ | ⟨h, _⟩ | ⟨_, _, h, _⟩ | ⟨_, _, _, _, _, _, _, _, h6, _⟩
          · omega
          · omega
          · omega
          · omega
          · omega
          · exact h6 k (List.mem_of_getElem? hkx)
        rw [hkx, if_pos (decide_eq_true hk5), Option.getD_some] at htk hpre
        rw [List.length_append] at hpre
        conv => whnf
        refine ⟨⟨by omega, by omega⟩, ?_⟩
        conv => whnf
        refine OOK.yn (YN.load rfl rfl rfl (v := .string (str k)) (Reads.at0 hrk) ?_)
        conv => whnf
        refine OOK.call [] rfl rfl rfl (by kernel_rfl) rfl ((f_puttext g5 A5 c5 q k hR5 (by omega) (by omega)).rowOut (F := fun A c => .slice A (q ++ vint (zz k.length) ++ k).length c)) (by decide) rfl ?_
        rintro v_ g6 m_ hg6 ⟨A6, c6, d6, rfl, hR6, hc6, rfl⟩
        conv => whnf
        refine OOK.call [] rfl rfl rfl (by kernel_rfl) rfl (hT (q ++ vint (zz k.length) ++ k) A6 c6 g6 (hg05.trans hg6) hR6 (by rw [List.length_append, List.length_append]; omega)) (by decide) rfl ?_
        rintro v_ g7 m_ hg7 ⟨A7, c7, rfl, hR7, rfl⟩
        conv => whnf
        have e : p ++ encs (decide (kind = 5)) (its.take (i + 1)) keys = q ++ vint (zz k.length) ++ k ++ xT.enc := by rw [htk, hq]; simp only [List.append_assoc]
        exact ⟨⟨i + 1, A7, c7⟩, [0], Sub.of (by decide) rfl ⟨slice_eq (by rw [e]), rfl, rfl, rfl, int_eq (i64_in (by omega) (by omega)), trivial⟩, ⟨hlt, by rw [e]; exact hR7⟩, by show items.length - (i + 1) < items.length - i; omega⟩
      · have hk5 : kind ≠ 5 := by simpa using q5
        rw [if_neg (by simp [hk5] : ¬ decide (kind = 5) = true), List.append_nil] at htk
        conv => whnf
        refine OOK.call [] rfl rfl rfl (by kernel_rfl) rfl (hT q A5 c5 g5 hg05 hR5 (by omega)) (by decide) rfl ?_
        rintro v_ g7 m_ hg7 ⟨A7, c7, rfl, hR7, rfl⟩
        conv => whnf
        have e : p ++ encs (decide (kind = 5)) (its.take (i + 1)) keys = q ++ xT.enc := by rw [htk, hq]; simp only [List.append_assoc]
        exact ⟨⟨i + 1, A7, c7⟩, [0], Sub.of (by decide) rfl ⟨slice_eq (by rw [e]), rfl, rfl, rfl, int_eq (i64_in (by omega) (by omega)), trivial⟩, ⟨hlt, by rw [e]; exact hR7⟩, by show items.length - (i + 1) < items.length - i; omega⟩
    · have hid : i = items.length := by omega
      subst hid
      refine vcC_ok _ _ _ _ _ ?_
      conv => whnf
      refine ⟨fun h1 => absurd (of_decide_eq_true h1) (by omega), fun _ => ?_⟩
      conv => whnf
      have htk : its.take items.length = its := by rw [← hil, List.take_length]
      rw [htk] at hR5 ⊢
      exact .mk ⟨_, [], _, rfl, by decide, rfl, trivial, A5, c5, rfl, hR5, rfl⟩
end Go.Proofs.YthkfnmmbjoadbaaGreatDoor
