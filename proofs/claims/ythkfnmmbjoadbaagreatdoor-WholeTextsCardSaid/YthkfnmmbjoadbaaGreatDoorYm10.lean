/- WholeTexts: the parser's tables, walked: the parts. -/
import Derived.Test.YthkfnmmbjoadbaaGreatDoorYm9
import Derived.Shelf.SlSortCmp.NoneTotal
set_option linter.unusedVariables false
set_option linter.unusedSimpArgs false
set_option maxRecDepth 100000
namespace Go.Proofs.YthkfnmmbjoadbaaGreatDoor
open Go Go.SX

theorem f_idxP (g : GH) (f : FuncId) (cap : Array Value) (s : Slot) (A : Option Addr) (c : Nat) (l : List Pr) (hO : OwnAt 118 6 encP l s A c) (hl : l.length ≤ 1000)
    (h : ∀ x ∈ l, ∀ g1, g.le g1 → calleeOk Tryz.prog f = true ∧ Tri Tryz.prog f (.agg (encP x).toArray :: cap.toList) g1 [] fun v g' m' => v = .bool false ∧ m' = []) :
    Tri Tryz.prog 120 [.slice A l.length c, .func (.func f) #[] cap] g [s] fun v g' m' => v = .int .i64 (-1) ∧ m' = [s] := by
  refine Tri.vc [.val (.slice A l.length c), .val (.func (.func f) #[] cap)] Tryz.func120 rfl Tryz.ntmps120 rfl rfl ?_
  conv => whnf
  refine COK.loop (α := Nat) (fun i => [(0, .val (.slice A l.length c)), (1, .val (.func (.func f) #[] cap)), (7, .val (.int .i64 l.length)), (8, .val (.int .i64 i))]) (fun _ => [s]) (fun i _ => i ≤ l.length) (fun i => l.length - i) 0 [0] (Sub.of (by decide) rfl ⟨rfl, rfl, rfl, rfl, trivial⟩) (Nat.zero_le _) ?_
  intro i g1 hg1 hi
  by_cases hlt : i < l.length
  · obtain ⟨x, hx⟩ : ∃ x, l[i]? = some x := ⟨_, List.getElem?_eq_getElem hlt⟩
    obtain ⟨hok, hT⟩ := h x (List.mem_of_getElem? hx) g1 hg1
    obtain ⟨a, rfl, hra⟩ := (hO.in_ (g := g1) (m := [s]) 0 rfl).at_ encP_len hx
    obtain ⟨xa, xk, xi, xt, xl, xA, xc, xs, xB, xd⟩ := x
    refine vcC_ok _ _ _ _ _ ?_
    conv => whnf
    refine ⟨fun _ => ?_, fun h1 => absurd h1 (by simp [hlt])⟩
    conv => whnf
    refine ⟨⟨by omega, by omega⟩, ?_⟩
    conv => whnf
    refine OOK.yn (YN.loadsIn rfl rfl rfl hra ?_)
    conv => whnf
    refine OOK.call [] rfl rfl rfl hok rfl hT (by decide) rfl ?_
    rintro v_ g2 m_ hg2 ⟨rfl, rfl⟩
    conv => whnf
    refine ⟨(by intro q; cases q), fun _ => ?_⟩
    conv => whnf
    exact ⟨i + 1, [0], Sub.of (by decide) rfl ⟨rfl, rfl, rfl, int_eq (i64_in (by omega) (by omega)), trivial⟩, hlt, by omega⟩
  · refine vcC_ok _ _ _ _ _ ?_
    conv => whnf
    refine ⟨fun h1 => absurd h1 (by simp [hlt]), fun _ => ?_⟩
    conv => whnf
    exact .mk ⟨_, [0], _, rfl, by decide, rfl, ⟨rfl, trivial⟩, rfl, rfl⟩
theorem f_contP (g : GH) (f : FuncId) (cap : Array Value) (s : Slot) (A : Option Addr) (c : Nat) (l : List Pr) (hO : OwnAt 118 6 encP l s A c) (hl : l.length ≤ 1000)
    (h : ∀ x ∈ l, ∀ g1, g.le g1 → calleeOk Tryz.prog f = true ∧ Tri Tryz.prog f (.agg (encP x).toArray :: cap.toList) g1 [] fun v g' m' => v = .bool false ∧ m' = []) :
    Tri Tryz.prog 101 [.slice A l.length c, .func (.func f) #[] cap] g [s] fun v g' m' => v = .bool false ∧ m' = [s] := by
  refine Tri.vc [.val (.slice A l.length c), .val (.func (.func f) #[] cap)] Tryz.func101 rfl Tryz.ntmps101 rfl rfl ?_
  conv => whnf
  refine OOK.call [0] rfl rfl rfl (by kernel_rfl) rfl (f_idxP g f cap s A c l hO hl h) (by decide) rfl ?_
  rintro v_ g1 m_ hg1 ⟨rfl, rfl⟩
  conv => whnf
  exact .mk ⟨_, [0], _, rfl, by decide, rfl, ⟨rfl, trivial⟩, rfl, rfl⟩
theorem f_tab1 (g : GH) (x : Pr) (key : List UInt8) (b : Nat) (hb : cellG g ⟨b, 0, none⟩ = some (.string (str key))) (hne : x.1 ≠ key) : Tri Tryz.prog 102 [.agg (encP x).toArray, .pointer (some ⟨b, 0, none⟩)] g [] fun v g' m' => v = .bool false ∧ m' = [] := by
  obtain ⟨xa, xk, xi, xt, xl, xA, xc, xs, xB, xd⟩ := x
  refine Tri.vc [.val (.agg (encP (xa, Val.mk xk xi xt xl xA xc xs xB xd)).toArray), .val (.pointer (some ⟨b, 0, none⟩))] Tryz.func102 rfl Tryz.ntmps102 rfl rfl ?_
  conv => whnf
  intro b1
  conv => whnf
  refine OOK.yn (YN.load rfl rfl rfl hb ?_)
  conv => whnf
  have e : ((str xa).toList == (str key).toList) = false := by rw [str_beq]; exact decide_eq_false hne
  rw [e]
  exact .mk ⟨_, [], _, rfl, by decide, rfl, trivial, rfl, rfl⟩
theorem f_sort0P (g : GH) (p : Option Addr) (c : Nat) (fv : Value) (s : Slot) : Tri Tryz.prog 104 [.slice p 0 c, fv] g [] fun v g' m' => v = .tuple #[] ∧ m' = [] := by
  intro w hw
  refine (AnyF.slices_SortFunc_none Tryz.sortP p c fv w).mono ?_
  rintro e w' ⟨rfl, rfl⟩
  exact ⟨_, g, [], rfl, ⟨rfl, rfl⟩, .refl _, hw, .refl _ _ _⟩
theorem f_sortO (g : GH) (s : Slot) (A : Option Addr) (c : Nat) (l : List Pr) (hO : OwnAt 118 6 encP l s A c) (hl : l.length ≤ 100000) :
    Tri Tryz.prog 104 [.slice A l.length c, .func (.func 105) #[] #[]] g [s]
      fun v g' m' => ∃ (l' : List Pr) (s' : Slot), v = .tuple #[] ∧ l'.Perm l ∧ (∀ (i j : Nat) (x y : Pr), i < j → l'[i]? = some x → l'[j]? = some y → decide (y.1 < x.1) = false) ∧ OwnAt 118 6 encP l' s' A c ∧ m' = [s'] := by
  cases hO with
  | nil b h0 =>
    subst h0
    have h := Tri.sub (ow := [⟨b, .dead⟩]) [] (by simp) rfl (f_sort0P g none 0 (.func (.func 105) #[] #[]) ⟨b, .dead⟩)
    intro w hw
    refine (h w hw).mono ?_
    rintro e w' ⟨v, g', m', rfl, ⟨rfl, rfl⟩, h1, h2, h3⟩
    exact ⟨_, g', _, rfl, ⟨[], _, rfl, .refl _, (fun i j x y _ hx => by simp at hx), .nil b rfl, rfl⟩, h1, h2, h3⟩
  | own b c rest h1 h2 =>
    intro w hw
    refine (f_sortP g b c l rest hl w hw).mono ?_
    rintro e w' ⟨v, g', m', rfl, ⟨l', rfl, hp, hs, rfl⟩, k1, k2, k3⟩
    refine ⟨_, g', _, rfl, ⟨l', _, rfl, hp, hs, .own b c rest ?_ (by rw [hp.length_eq]; exact h2), rfl⟩, k1, k2, k3⟩
    rw [List.length_append, flat_len encP_len, hp.length_eq, ← flat_len encP_len l, ← List.length_append]
    exact h1
theorem asc_of_sort (l : List Pr) (h : ∀ (i j : Nat) (x y : Pr), i < j → l[i]? = some x → l[j]? = some y → decide (y.1 < x.1) = false) (hn : (l.map Prod.fst).Nodup) : AscP l := by
  rw [AscP, List.pairwise_iff_getElem]
  intro i j hi hj hij
  have h1 := of_decide_eq_false (h i j l[i] l[j] hij (List.getElem?_eq_getElem hi) (List.getElem?_eq_getElem hj))
  refine lt_tri _ _ ?_ h1
  intro e
  have h2 := List.pairwise_iff_getElem.1 hn i j (by simpa using hi) (by simpa using hj) hij
  simp only [List.getElem_map] at h2
  exact h2 e.symm
structure Us where
  i : Nat
  sK : Slot
  kA : Option Addr
  kc : Nat
  sV : Slot
  vA : Option Addr
  vc : Nat
structure Ts where
  more : Bool
  p : Nat
  cnt : Nat
  f : Nat
  ys : List Pr
  s : Slot
  A : Option Addr
  c : Nat
def prT (x : Pr) : List UInt8 × T := (x.1, x.2.t)
theorem f_tableP (g : GH) (b : Nat) (s : List UInt8) (f : Nat) (dep : Int) (hV : ValC b s f (dep + 1) g) (p cnt : Nat) (hs : s.length ≤ 100000) (hp : p < s.length) (hc : cnt ≤ 1000) (hd : 0 ≤ dep ∧ dep ≤ 100) (W : Out (T × Nat × Nat))
    (hW : W = (emptyP s 125 p).bind fun e => if e.1 then .ok (.mk 5 0 [] [] [], e.2, cnt) else (tabP (valP f s) s (s.length + 1) e.2 cnt []).bind fun l => .ok (.mk 5 0 [] ((sortK l.1).map Prod.snd) ((sortK l.1).map Prod.fst), l.2.1, l.2.2)) (hne : W ≠ .stuck) :
    TriE Tryz.prog 69 [.pointer (some ⟨b, 0, none⟩), .int .i64 dep] g [prS b s p cnt] (XS s W) fun v g' m' => ∃ (y : Val) (x : T × Nat × Nat), W = .ok x ∧ x.1 = y.t ∧ v = y.val ∧ y.Ok g' ∧ m' = [prS b s x.2.1 x.2.2] := by
  refine TriE.cok [.own 0 0, .val (.int .i64 dep)] Tryz.func69 rfl Tryz.ntmps69 rfl rfl ?_
  refine COK.dummy 0 ?_
  refine vcC_ok _ _ _ _ _ ?_
  conv => whnf
  intro b4
  conv => whnf
  refine OOK.callE [0] rfl rfl rfl (by kernel_rfl) rfl (f_empty g b s 125 p cnt hs (by omega)) (by decide) rfl (fun ch h => ⟨by rw [hW, h.1]; rfl, h.2⟩) ?_
  rintro v_ g1 m_ hg1 ⟨e, he, rfl, rfl⟩
  conv => whnf
  have hel := empty_ok he
  rw [he, Out.ok_bind] at hW
  have hdep : IntKind.i64.wrap (dep + 1) = dep + 1 := i64_in (by omega) (by omega)
  refine COK.loop (α := Ts) (fun y => [(0, .own 0 0), (1, .val (.int .i64 dep)), (4, .own 2 0), (5, .val (.slice y.A y.ys.length y.c)), (6, .val (.bool y.more))])
    (fun y => [prS b s y.p y.cnt, y.s, ⟨b4, .cells [.int .i64 0, .int .i64 0, .string ⟨#[]⟩, .slice none 0 0, .slice none 0 0] 28 (0, 0)⟩])
    (fun y g' => OwnAt 118 6 encP y.ys y.s y.A y.c ∧ (∀ z ∈ y.ys, z.2.Ok g') ∧ (y.ys.map Prod.fst).Nodup ∧ y.ys.length ≤ y.cnt ∧ y.cnt ≤ 1000 ∧ y.p ≤ s.length ∧ W = (if y.more then (tabP (valP f s) s y.f y.p y.cnt (y.ys.map prT)).bind fun l => .ok (.mk 5 0 [] ((sortK l.1).map Prod.snd) ((sortK l.1).map Prod.fst), l.2.1, l.2.2) else .ok (.mk 5 0 [] ((sortK (y.ys.map prT)).map Prod.snd) ((sortK (y.ys.map prT)).map Prod.fst), y.p, y.cnt)) ∧ (y.more = true → s.length < y.p + y.f))
    (fun y => y.f) ⟨!e.1, e.2, cnt, s.length + 1, [], ⟨0, .dead⟩, none, 0⟩ [0, 1, 2] (Sub.of (by decide) rfl ⟨rfl, rfl, rfl, rfl, rfl, trivial⟩) ⟨.nil 0 rfl, (fun z hz => by cases hz), List.nodup_nil, Nat.zero_le _, hc, hel.2, by rw [hW]; cases e.1 <;> rfl, fun _ => by show _ < e.2 + (_ + 1); omega⟩ ?_
  rintro ⟨more, p1, cnt1, f1, ys, sl, A, c⟩ g6 hg6 ⟨hO, hyo0, hnd, hyl, hc1, hp1, hW, hf⟩
  dsimp only at hO hyo0 hnd hyl hc1 hp1 hW hf ⊢
  have hg06 := hg1.trans hg6
  cases more with
  | true =>
    rw [if_pos rfl] at hW
    have hf := hf rfl
    obtain ⟨f1, rfl⟩ : ∃ x, f1 = x + 1 := ⟨f1 - 1, by omega⟩
    rw [tabP] at hW
    refine vcC_ok _ _ _ _ _ ?_
    conv => whnf
    refine ⟨fun _ => ?_, (by intro q; cases q)⟩
    conv => whnf
    refine OOK.call [0] rfl rfl rfl (by kernel_rfl) rfl (f_blanks g6 b s p1 cnt1 hs) (by decide) rfl ?_
    rintro v_ g7 m_ hg7 ⟨rfl, rfl⟩
    conv => whnf
    refine OOK.callE [0] rfl rfl rfl (by kernel_rfl) rfl (f_peek g7 b s (blanksP s p1) cnt1 hs) (by decide) rfl (fun ch h => ⟨by rw [hW, h.1]; rfl, h.2⟩) ?_
    rintro v_ g8 m_ hg8 ⟨c0, hc0, rfl, rfl⟩
    conv => whnf
    have hl0 := (peek_ok hc0).2
    rw [hc0, Out.ok_bind] at hW
    have h34 : c0 = 34 := by
      apply Classical.byContradiction
      intro h
      rw [if_pos h] at hW
      exact hne hW
    rw [if_neg (by simp [h34])] at hW
    subst h34
    refine ⟨(by intro q; cases q), fun _ => ?_⟩
    conv => whnf
    refine OOK.callE [0] rfl rfl rfl (by kernel_rfl) rfl (f_lit g8 b s (blanksP s p1) cnt1 hs hl0 (fun h => hne (by rw [hW, h]; rfl))) (by decide) rfl (fun ch h => ⟨by rw [hW, h.1]; rfl, h.2⟩) ?_
    rintro v_ g9 m_ hg9 ⟨k, hk, rfl, rfl⟩
    conv => whnf
    have hkl := lit_ok _ _ _ _ hk
    rw [hk, Out.ok_bind] at hW
    have hkn : k.1 ∉ (ys.map prT).map Prod.fst := fun h => by rw [if_pos h] at hW; exact hne hW
    rw [if_neg hkn] at hW
    intro b8
    conv => whnf
    have hmm : (ys.map prT).map Prod.fst = ys.map Prod.fst := by rw [List.map_map]; rfl
    rw [hmm] at hkn
    refine OOK.freeze 3 rfl rfl fun g10 hg10 hb8 => ?_
    have hcell : cellG g10 ⟨b8, 0, none⟩ = some (.string (str k.1)) := by
      unfold cellG
      rw [hb8]
      rfl
    refine OOK.call [1] rfl rfl rfl (by kernel_rfl) rfl (f_contP g10 102 #[.pointer (some ⟨b8, 0, none⟩)] sl A c ys hO (by omega) (fun x hx g11 hg11 => ⟨by kernel_rfl, f_tab1 g11 x k.1 b8 (cellG_mono hg11 hcell) (fun h => hkn (by rw [← h]; exact List.mem_map_of_mem hx))⟩)) (by decide) rfl ?_
    rintro v_ g11 m_ hg11 ⟨rfl, rfl⟩
    conv => whnf
    refine ⟨(by intro q; cases q), fun _ => ?_⟩
    conv => whnf
    refine OOK.call [0] rfl rfl rfl (by kernel_rfl) rfl (f_blanks g11 b s k.2 cnt1 hs) (by decide) rfl ?_
    rintro v_ g12 m_ hg12 ⟨rfl, rfl⟩
    conv => whnf
    refine OOK.callE [0] rfl rfl rfl (by kernel_rfl) rfl (f_next g12 b s (blanksP s k.2) cnt1 hs) (by decide) rfl (fun ch h => ⟨by rw [hW, h.1]; rfl, h.2⟩) ?_
    rintro v_ g13 m_ hg13 ⟨c1, hc1', rfl, rfl⟩
    conv => whnf
    have hl1 := (peek_ok hc1').2
    rw [hc1', Out.ok_bind] at hW
    have h58 : c1 = 58 := by
      apply Classical.byContradiction
      intro h
      rw [if_pos h] at hW
      exact hne hW
    rw [if_neg (by simp [h58])] at hW
    subst h58
    refine ⟨(by intro q; cases q), fun _ => ?_⟩
    conv => whnf
    have hVs : valP f s (blanksP s k.2 + 1) cnt1 ≠ .stuck := fun h => hne (by rw [hW, h]; rfl)
    have hg013 := hg06.trans (hg7.trans (hg8.trans (hg9.trans (hg10.trans (hg11.trans (hg12.trans hg13))))))
    have hb0 := blanks_le s p1
    have hb1 := blanks_le s k.2
    have fin : ∀ (mm : Bool × Nat) (x : T × Nat × Nat), W = ((if mm.1 then tabP (valP f s) s f1 mm.2 x.2.2 (ys.map prT ++ [(k.1, x.1)]) else .ok (ys.map prT ++ [(k.1, x.1)], mm.2, x.2.2)) : Out (List (List UInt8 × T) × Nat × Nat)).bind (fun l => .ok (.mk 5 0 [] ((sortK l.1).map Prod.snd) ((sortK l.1).map Prod.fst), l.2.1, l.2.2)) → mm.2 ≤ s.length → (blanksP s k.2 + 1 < x.2.1 ∧ x.2.1 ≤ s.length ∧ cnt1 < x.2.2 ∧ x.2.2 ≤ 1000) → ∀ (Y : Val) (g7 g9 : GH), g6.le g7 → g7.le g9 → x.1 = Y.t → Y.Ok g7 → ∀ {sV' vA' vc'}, OwnAt 118 6 encP (ys ++ [(k.1, Y)]) sV' vA' vc' → p1 < mm.2 →
        OwnAt 118 6 encP (ys ++ [(k.1, Y)]) sV' vA' vc' ∧ (∀ z ∈ ys ++ [(k.1, Y)], z.2.Ok g9) ∧ ((ys ++ [(k.1, Y)]).map Prod.fst).Nodup ∧ (ys ++ [(k.1, Y)]).length ≤ x.2.2 ∧ x.2.2 ≤ 1000 ∧ mm.2 ≤ s.length ∧ W = (if mm.1 then (tabP (valP f s) s f1 mm.2 x.2.2 ((ys ++ [(k.1, Y)]).map prT)).bind fun l => .ok (.mk 5 0 [] ((sortK l.1).map Prod.snd) ((sortK l.1).map Prod.fst), l.2.1, l.2.2) else .ok (.mk 5 0 [] ((sortK ((ys ++ [(k.1, Y)]).map prT)).map Prod.snd) ((sortK ((ys ++ [(k.1, Y)]).map prT)).map Prod.fst), mm.2, x.2.2)) ∧ (mm.1 = true → s.length < mm.2 + f1) := by
      intro mm x hW hml hx Y g7 g9 h7 h9 hxt hY sV' vA' vc' hO' hpm
      refine ⟨hO', fun z hz => ?_, ?_, by rw [List.length_append]; show ys.length + 1 ≤ _; omega, hx.2.2.2, hml, ?_, fun _ => by omega⟩
      · rcases List.mem_append.1 hz with hz | hz
        · exact (hyo0 z hz).mono (h7.trans h9)
        · obtain rfl := List.mem_singleton.1 hz
          exact hY.mono h9
      · rw [List.map_append, List.nodup_append]
        refine ⟨hnd, List.nodup_cons.2 ⟨by simp, List.nodup_nil⟩, ?_⟩
        intro a ha b' hb' e
        obtain rfl := List.mem_singleton.1 hb'
        exact hkn (by rw [← e]; exact ha)
      · have e2 : (ys ++ [(k.1, Y)]).map prT = ys.map prT ++ [(k.1, x.1)] := by rw [List.map_append, hxt]; rfl
        rw [e2, hW]
        cases mm.1 <;> rfl
    have ey : ∀ Y : Pr, ys.length + 1 = (ys ++ [Y]).length := fun Y => by rw [List.length_append]; rfl
    refine COK.drawL [] [] (by kernel_rfl) (by kernel_rfl) ?_
    conv => whnf
    refine OAnd.mk ?_ ?_
    · conv => whnf
      refine OOK.yn (YN.load rfl rfl rfl (cellG_mono (hg11.trans (hg12.trans hg13)) hcell) ?_)
      conv => whnf
      refine OAnd.mk ⟨rfl, rfl, rfl, rfl, trivial⟩ ?_
      conv => whnf
      rw [hdep]
      refine OOK.callE [0] rfl rfl rfl (by kernel_rfl) rfl (hV g13 (blanksP s k.2 + 1) cnt1 hg013 hl1 hc1 hVs) (by decide) rfl (fun ch h => ⟨by rw [hW, h.1]; rfl, h.2⟩) ?_
      rintro v_ g14 m_ hg14 ⟨⟨yk, yi, yt, yl, yA, yc, yks, yB, yd⟩, x, hx, hxt, rfl, hyo, rfl⟩
      conv => whnf
      refine OAnd.mk ⟨rfl, rfl, rfl, rfl, trivial⟩ ?_
      conv => whnf
      intro bv
      conv => whnf
      refine OAnd.mk ⟨rfl, rfl, rfl, rfl, trivial⟩ ?_
      conv => whnf
      refine OOK.appendRowB (k.1, Val.mk yk yi yt yl yA yc yks yB yd) 1 encP_len rfl rfl rfl rfl (.inl ⟨_, rfl⟩) rfl (size := 6) (bytes := 96) rfl rfl rfl (by decide) rfl rfl hO (Src.own (i := 4) (q := 0) rfl rfl (fun j v hj => by rw [Nat.zero_add]; exact hj)) (encP_one _) (by omega) ?_
      intro sV' vA' vc' hO'
      conv => whnf
      refine OAnd.mk ⟨rfl, rfl, rfl, rfl, trivial⟩ ?_
      conv => whnf
      rw [ey (k.1, Val.mk yk yi yt yl yA yc yks yB yd)]
      have hxo := val_ok s f _ cnt1 x hc1 hx
      rw [hx, Out.ok_bind] at hW
      refine OOK.callE [0] rfl rfl rfl (by kernel_rfl) rfl (f_more g14 b s 125 x.2.1 x.2.2 hs hxo.2.1 (fun h => hne (by rw [hW, h]; rfl))) (by decide) rfl (fun ch h => ⟨by rw [hW, h.1]; rfl, h.2⟩) ?_
      rintro v_ g15 m_ hg15 ⟨mm, hmm, rfl, rfl⟩
      conv => whnf
      have hmo := more_ok hmm
      rw [hmm, Out.ok_bind] at hW
      exact ⟨⟨mm.1, mm.2, x.2.2, f1, ys ++ [(k.1, Val.mk yk yi yt yl yA yc yks yB yd)], sV', vA', vc'⟩, [0, 5, 2], Sub.of (by decide) rfl ⟨rfl, rfl, rfl, rfl, rfl, trivial⟩, fin mm x hW hmo.2 hxo _ g14 g15 (hg7.trans (hg8.trans (hg9.trans (hg10.trans (hg11.trans (hg12.trans (hg13.trans hg14))))))) hg15 hxt hyo hO' (by omega), by show f1 < f1 + 1; omega⟩
    · skip
      conv => whnf
      rw [hdep]
      refine OOK.callE [0] rfl rfl rfl (by kernel_rfl) rfl (hV g13 (blanksP s k.2 + 1) cnt1 hg013 hl1 hc1 hVs) (by decide) rfl (fun ch h => ⟨by rw [hW, h.1]; rfl, h.2⟩) ?_
      rintro v_ g14 m_ hg14 ⟨⟨yk, yi, yt, yl, yA, yc, yks, yB, yd⟩, x, hx, hxt, rfl, hyo, rfl⟩
      conv => whnf
      refine OAnd.mk ⟨rfl, rfl, rfl, rfl, trivial⟩ ?_
      conv => whnf
      refine OOK.yn (YN.load rfl rfl rfl (cellG_mono (hg11.trans (hg12.trans (hg13.trans hg14))) hcell) ?_)
      conv => whnf
      refine OAnd.mk ⟨rfl, rfl, rfl, rfl, trivial⟩ ?_
      conv => whnf
      intro bv
      conv => whnf
      refine OAnd.mk ⟨rfl, rfl, rfl, rfl, trivial⟩ ?_
      conv => whnf
      refine OOK.appendRowB (k.1, Val.mk yk yi yt yl yA yc yks yB yd) 1 encP_len rfl rfl rfl rfl (.inl ⟨_, rfl⟩) rfl (size := 6) (bytes := 96) rfl rfl rfl (by decide) rfl rfl hO (Src.own (i := 4) (q := 0) rfl rfl (fun j v hj => by rw [Nat.zero_add]; exact hj)) (encP_one _) (by omega) ?_
      intro sV' vA' vc' hO'
      conv => whnf
      refine OAnd.mk ⟨rfl, rfl, rfl, rfl, trivial⟩ ?_
      conv => whnf
      rw [ey (k.1, Val.mk yk yi yt yl yA yc yks yB yd)]
      have hxo := val_ok s f _ cnt1 x hc1 hx
      rw [hx, Out.ok_bind] at hW
      refine OOK.callE [0] rfl rfl rfl (by kernel_rfl) rfl (f_more g14 b s 125 x.2.1 x.2.2 hs hxo.2.1 (fun h => hne (by rw [hW, h]; rfl))) (by decide) rfl (fun ch h => ⟨by rw [hW, h.1]; rfl, h.2⟩) ?_
      rintro v_ g15 m_ hg15 ⟨mm, hmm, rfl, rfl⟩
      conv => whnf
      have hmo := more_ok hmm
      rw [hmm, Out.ok_bind] at hW
      exact ⟨⟨mm.1, mm.2, x.2.2, f1, ys ++ [(k.1, Val.mk yk yi yt yl yA yc yks yB yd)], sV', vA', vc'⟩, [0, 5, 2], Sub.of (by decide) rfl ⟨rfl, rfl, rfl, rfl, rfl, trivial⟩, fin mm x hW hmo.2 hxo _ g14 g15 (hg7.trans (hg8.trans (hg9.trans (hg10.trans (hg11.trans (hg12.trans (hg13.trans hg14))))))) hg15 hxt hyo hO' (by omega), by show f1 < f1 + 1; omega⟩
  | false =>
    rw [if_neg (by decide)] at hW
    refine vcC_ok _ _ _ _ _ ?_
    conv => whnf
    refine ⟨(by intro q; cases q), fun _ => ?_⟩
    conv => whnf
    refine OOK.call [1] rfl rfl rfl (by kernel_rfl) rfl (f_sortO g6 sl A c ys hO (by omega)) (by decide) rfl ?_
    rintro v_ g7 m_ hg7 ⟨l', sl', rfl, hperm, hsort, hO', rfl⟩
    conv => whnf
    have hnd' : (l'.map Prod.fst).Nodup := (hperm.map Prod.fst).nodup_iff.2 hnd
    have hasc := asc_of_sort l' hsort hnd'
    have hK : sortK (ys.map prT) = l'.map prT := by
      refine asc_unique _ _ (sortK_asc _ (by rw [List.map_map]; exact hnd)) ?_ ((sortK_perm _).trans (hperm.symm.map prT))
      rw [AscP, List.pairwise_map]
      exact hasc
    rw [hK, List.map_map, List.map_map] at hW
    have hll := hperm.length_eq
    rw [← hll]
    have hl1000 : l'.length ≤ 1000 := by omega
    have hyo1 : ∀ z ∈ l', z.2.Ok g7 := fun z hz => (hyo0 z (hperm.mem_iff.1 hz)).mono hg7
    intro b9
    conv => whnf
    refine COK.rowF 1 hO' rfl ?_
    intro g8 hg8 hR
    refine COK.dummy 0 (COK.dummy 0 ?_)
    refine COK.loop (α := Us) (fun y => [(4, .own 1 0), (9, .own 2 0), (65, .val (.slice A l'.length c)), (66, .val (.int .i64 l'.length)), (67, .val (.int .i64 y.i))])
      (fun y => [prS b s p1 cnt1, ⟨b4, .cells [.int .i64 0, .int .i64 0, .string ⟨#[]⟩, .slice none 0 0, .slice none 0 0] 28 (0, 0)⟩, ⟨b9, .cells [.int .i64 5, .int .i64 0, .string ⟨#[]⟩, .slice y.vA ((l'.take y.i).map Prod.snd).length y.vc, .slice y.kA ((l'.take y.i).map Prod.fst).length y.kc] 28 (0, 0)⟩, y.sK, y.sV])
      (fun y g' => y.i ≤ l'.length ∧ OwnAt 9 1 encK ((l'.take y.i).map Prod.fst) y.sK y.kA y.kc ∧ OwnAt 28 5 Val.cells ((l'.take y.i).map Prod.snd) y.sV y.vA y.vc) (fun y => l'.length - y.i) ⟨0, ⟨0, .dead⟩, none, 0, ⟨0, .dead⟩, none, 0⟩ [0, 2, 3, 4, 5] (Sub.of (by decide) rfl ⟨rfl, rfl, rfl, rfl, rfl, trivial⟩) ⟨Nat.zero_le _, .nil 0 rfl, .nil 0 rfl⟩ ?_
    rintro ⟨i, sK, kA, kc, sV, vA, vc⟩ g9 hg9 ⟨hi, hOK, hOV⟩
    dsimp only at hi hOK hOV ⊢
    have htl : (l'.take i).length = i := by rw [List.length_take]; omega
    by_cases hlt : i < l'.length
    · obtain ⟨x, hx⟩ : ∃ x, l'[i]? = some x := ⟨_, List.getElem?_eq_getElem hlt⟩
      have htk := take_get hx
      obtain ⟨a, rfl, hra⟩ := (hR.mono hg9).at_ encP_len hx
      obtain ⟨ka, yk, yi, yt, yl, yA, yc, yks, yB, yd⟩ := x
      refine vcC_ok _ _ _ _ _ ?_
      conv => whnf
      refine ⟨fun _ => ?_, fun h1 => absurd (of_decide_eq_false h1) (by omega)⟩
      conv => whnf
      refine ⟨⟨by omega, by omega⟩, ?_⟩
      conv => whnf
      refine OOK.yn (YN.loads rfl rfl rfl hra ?_)
      conv => whnf
      intro b11
      conv => whnf
      have ek2 : (l'.take (i + 1)).map Prod.fst = (l'.take i).map Prod.fst ++ [ka] := by rw [htk, List.map_append]; rfl
      have ev2 : (l'.take (i + 1)).map Prod.snd = (l'.take i).map Prod.snd ++ [Val.mk yk yi yt yl yA yc yks yB yd] := by rw [htk, List.map_append]; rfl
      have ek : ((l'.take i).map Prod.fst).length + 1 = ((l'.take (i + 1)).map Prod.fst).length := by rw [ek2, List.length_append]; rfl
      have ev : ((l'.take i).map Prod.snd).length + 1 = ((l'.take (i + 1)).map Prod.snd).length := by rw [ev2, List.length_append]; rfl
      refine COK.draw [5] (by kernel_rfl) (by kernel_rfl) ?_
      conv => whnf
      refine OAnd.mk ?_ ?_
      · conv => whnf
        conv => whnf
        refine OAnd.mk ⟨rfl, rfl, rfl, rfl, rfl, rfl, trivial⟩ ?_
        conv => whnf
        refine OAnd.mk ?_ ?_
        · conv => whnf
          intro bk
          conv => whnf
          refine OAnd.mk ⟨rfl, rfl, rfl, rfl, rfl, rfl, trivial⟩ ?_
          conv => whnf
          refine OAnd.mk ?_ ?_
          · conv => whnf
            refine OOK.appendRowB ka 3 encK_len rfl rfl rfl rfl (.inl ⟨_, rfl⟩) rfl (size := 1) (bytes := 16) rfl rfl rfl (by decide) rfl rfl hOK (Src.own (i := 6) (q := 0) rfl rfl (fun j v hj => by rw [Nat.zero_add]; exact hj)) (encK_one _) (by rw [List.length_map]; omega) ?_
            intro sK' kA' kc' hOK'
            conv => whnf
            refine OAnd.mk ⟨rfl, rfl, rfl, rfl, rfl, rfl, trivial⟩ ?_
            conv => whnf
            refine OAnd.mk ?_ ?_
            · conv => whnf
              conv => whnf
              refine OAnd.mk ⟨rfl, rfl, rfl, rfl, rfl, rfl, trivial⟩ ?_
              conv => whnf
              intro bv
              conv => whnf
              refine OAnd.mk ⟨rfl, rfl, rfl, rfl, rfl, rfl, trivial⟩ ?_
              conv => whnf
              refine OOK.appendRowB (Val.mk yk yi yt yl yA yc yks yB yd) 4 Val.len rfl rfl rfl rfl (.inl ⟨_, rfl⟩) rfl (size := 5) (bytes := 80) rfl rfl rfl (by decide) rfl rfl hOV (Src.own (i := 8) (q := 0) rfl rfl (fun j v hj => by rw [Nat.zero_add]; exact hj)) (Val.one _) (by rw [List.length_map]; omega) ?_
              intro sV' vA' vc' hOV'
              conv => whnf
              refine OAnd.mk ⟨rfl, rfl, rfl, rfl, rfl, rfl, trivial⟩ ?_
              conv => whnf
              rw [ek, ev]
              rw [← ek2] at hOK'
              rw [← ev2] at hOV'
              refine OAnd.mk ⟨rfl, rfl, rfl, rfl, rfl, rfl, trivial⟩ ?_
              conv => whnf
              refine OAnd.mk ⟨rfl, rfl, rfl, rfl, rfl, rfl, trivial⟩ ?_
              conv => whnf
              exact ⟨⟨i + 1, sK', kA', kc', sV', vA', vc'⟩, [0, 1, 2, 7, 9], Sub.of (by decide) rfl ⟨rfl, rfl, rfl, rfl, int_eq (i64_in (by omega) (by omega)), trivial⟩, ⟨hlt, hOK', hOV'⟩, by show l'.length - (i + 1) < l'.length - i; omega⟩
            · skip
              conv => whnf
              intro bv
              conv => whnf
              refine OAnd.mk ⟨rfl, rfl, rfl, rfl, rfl, rfl, trivial⟩ ?_
              conv => whnf
              conv => whnf
              refine OAnd.mk ⟨rfl, rfl, rfl, rfl, rfl, rfl, trivial⟩ ?_
              conv => whnf
              refine OOK.appendRowB (Val.mk yk yi yt yl yA yc yks yB yd) 4 Val.len rfl rfl rfl rfl (.inl ⟨_, rfl⟩) rfl (size := 5) (bytes := 80) rfl rfl rfl (by decide) rfl rfl hOV (Src.own (i := 8) (q := 0) rfl rfl (fun j v hj => by rw [Nat.zero_add]; exact hj)) (Val.one _) (by rw [List.length_map]; omega) ?_
              intro sV' vA' vc' hOV'
              conv => whnf
              refine OAnd.mk ⟨rfl, rfl, rfl, rfl, rfl, rfl, trivial⟩ ?_
              conv => whnf
              rw [ek, ev]
              rw [← ek2] at hOK'
              rw [← ev2] at hOV'
              refine OAnd.mk ⟨rfl, rfl, rfl, rfl, rfl, rfl, trivial⟩ ?_
              conv => whnf
              refine OAnd.mk ⟨rfl, rfl, rfl, rfl, rfl, rfl, trivial⟩ ?_
              conv => whnf
              exact ⟨⟨i + 1, sK', kA', kc', sV', vA', vc'⟩, [0, 1, 2, 7, 9], Sub.of (by decide) rfl ⟨rfl, rfl, rfl, rfl, int_eq (i64_in (by omega) (by omega)), trivial⟩, ⟨hlt, hOK', hOV'⟩, by show l'.length - (i + 1) < l'.length - i; omega⟩
          · skip
            refine OAnd.mk ?_ ?_
            · conv => whnf
              conv => whnf
              refine OAnd.mk ⟨rfl, rfl, rfl, rfl, rfl, rfl, trivial⟩ ?_
              conv => whnf
              refine OAnd.mk ?_ ?_
              · conv => whnf
                refine OOK.appendRowB ka 3 encK_len rfl rfl rfl rfl (.inl ⟨_, rfl⟩) rfl (size := 1) (bytes := 16) rfl rfl rfl (by decide) rfl rfl hOK (Src.own (i := 6) (q := 0) rfl rfl (fun j v hj => by rw [Nat.zero_add]; exact hj)) (encK_one _) (by rw [List.length_map]; omega) ?_
                intro sK' kA' kc' hOK'
                conv => whnf
                refine OAnd.mk ⟨rfl, rfl, rfl, rfl, rfl, rfl, trivial⟩ ?_
                conv => whnf
                intro bv
                conv => whnf
                refine OAnd.mk ⟨rfl, rfl, rfl, rfl, rfl, rfl, trivial⟩ ?_
                conv => whnf
                refine OOK.appendRowB (Val.mk yk yi yt yl yA yc yks yB yd) 4 Val.len rfl rfl rfl rfl (.inl ⟨_, rfl⟩) rfl (size := 5) (bytes := 80) rfl rfl rfl (by decide) rfl rfl hOV (Src.own (i := 8) (q := 0) rfl rfl (fun j v hj => by rw [Nat.zero_add]; exact hj)) (Val.one _) (by rw [List.length_map]; omega) ?_
                intro sV' vA' vc' hOV'
                conv => whnf
                refine OAnd.mk ⟨rfl, rfl, rfl, rfl, rfl, rfl, trivial⟩ ?_
                conv => whnf
                rw [ek, ev]
                rw [← ek2] at hOK'
                rw [← ev2] at hOV'
                refine OAnd.mk ⟨rfl, rfl, rfl, rfl, rfl, rfl, trivial⟩ ?_
                conv => whnf
                refine OAnd.mk ⟨rfl, rfl, rfl, rfl, rfl, rfl, trivial⟩ ?_
                conv => whnf
                exact ⟨⟨i + 1, sK', kA', kc', sV', vA', vc'⟩, [0, 1, 2, 7, 9], Sub.of (by decide) rfl ⟨rfl, rfl, rfl, rfl, int_eq (i64_in (by omega) (by omega)), trivial⟩, ⟨hlt, hOK', hOV'⟩, by show l'.length - (i + 1) < l'.length - i; omega⟩
              · skip
                conv => whnf
                intro bv
                conv => whnf
                refine OAnd.mk ⟨rfl, rfl, rfl, rfl, rfl, rfl, trivial⟩ ?_
                conv => whnf
                refine OOK.appendRowB ka 3 encK_len rfl rfl rfl rfl (.inl ⟨_, rfl⟩) rfl (size := 1) (bytes := 16) rfl rfl rfl (by decide) rfl rfl hOK (Src.own (i := 6) (q := 0) rfl rfl (fun j v hj => by rw [Nat.zero_add]; exact hj)) (encK_one _) (by rw [List.length_map]; omega) ?_
                intro sK' kA' kc' hOK'
                conv => whnf
                refine OAnd.mk ⟨rfl, rfl, rfl, rfl, rfl, rfl, trivial⟩ ?_
                conv => whnf
                refine OOK.appendRowB (Val.mk yk yi yt yl yA yc yks yB yd) 4 Val.len rfl rfl rfl rfl (.inl ⟨_, rfl⟩) rfl (size := 5) (bytes := 80) rfl rfl rfl (by decide) rfl rfl hOV (Src.own (i := 7) (q := 0) rfl rfl (fun j v hj => by rw [Nat.zero_add]; exact hj)) (Val.one _) (by rw [List.length_map]; omega) ?_
                intro sV' vA' vc' hOV'
                conv => whnf
                refine OAnd.mk ⟨rfl, rfl, rfl, rfl, rfl, rfl, trivial⟩ ?_
                conv => whnf
                rw [ek, ev]
                rw [← ek2] at hOK'
                rw [← ev2] at hOV'
                refine OAnd.mk ⟨rfl, rfl, rfl, rfl, rfl, rfl, trivial⟩ ?_
                conv => whnf
                refine OAnd.mk ⟨rfl, rfl, rfl, rfl, rfl, rfl, trivial⟩ ?_
                conv => whnf
                exact ⟨⟨i + 1, sK', kA', kc', sV', vA', vc'⟩, [0, 1, 2, 8, 9], Sub.of (by decide) rfl ⟨rfl, rfl, rfl, rfl, int_eq (i64_in (by omega) (by omega)), trivial⟩, ⟨hlt, hOK', hOV'⟩, by show l'.length - (i + 1) < l'.length - i; omega⟩
            · skip
              conv => whnf
              intro bv
              conv => whnf
              refine OAnd.mk ⟨rfl, rfl, rfl, rfl, rfl, rfl, trivial⟩ ?_
              conv => whnf
              refine OAnd.mk ?_ ?_
              · conv => whnf
                refine OOK.appendRowB ka 3 encK_len rfl rfl rfl rfl (.inl ⟨_, rfl⟩) rfl (size := 1) (bytes := 16) rfl rfl rfl (by decide) rfl rfl hOK (Src.own (i := 6) (q := 0) rfl rfl (fun j v hj => by rw [Nat.zero_add]; exact hj)) (encK_one _) (by rw [List.length_map]; omega) ?_
                intro sK' kA' kc' hOK'
                conv => whnf
                refine OAnd.mk ⟨rfl, rfl, rfl, rfl, rfl, rfl, trivial⟩ ?_
                conv => whnf
                conv => whnf
                refine OAnd.mk ⟨rfl, rfl, rfl, rfl, rfl, rfl, trivial⟩ ?_
                conv => whnf
                refine OOK.appendRowB (Val.mk yk yi yt yl yA yc yks yB yd) 4 Val.len rfl rfl rfl rfl (.inl ⟨_, rfl⟩) rfl (size := 5) (bytes := 80) rfl rfl rfl (by decide) rfl rfl hOV (Src.own (i := 7) (q := 0) rfl rfl (fun j v hj => by rw [Nat.zero_add]; exact hj)) (Val.one _) (by rw [List.length_map]; omega) ?_
                intro sV' vA' vc' hOV'
                conv => whnf
                refine OAnd.mk ⟨rfl, rfl, rfl, rfl, rfl, rfl, trivial⟩ ?_
                conv => whnf
                rw [ek, ev]
                rw [← ek2] at hOK'
                rw [← ev2] at hOV'
                refine OAnd.mk ⟨rfl, rfl, rfl, rfl, rfl, rfl, trivial⟩ ?_
                conv => whnf
                refine OAnd.mk ⟨rfl, rfl, rfl, rfl, rfl, rfl, trivial⟩ ?_
                conv => whnf
                exact ⟨⟨i + 1, sK', kA', kc', sV', vA', vc'⟩, [0, 1, 2, 8, 9], Sub.of (by decide) rfl ⟨rfl, rfl, rfl, rfl, int_eq (i64_in (by omega) (by omega)), trivial⟩, ⟨hlt, hOK', hOV'⟩, by show l'.length - (i + 1) < l'.length - i; omega⟩
              · skip
                conv => whnf
                conv => whnf
                refine OAnd.mk ⟨rfl, rfl, rfl, rfl, rfl, rfl, trivial⟩ ?_
                conv => whnf
                refine OOK.appendRowB ka 3 encK_len rfl rfl rfl rfl (.inl ⟨_, rfl⟩) rfl (size := 1) (bytes := 16) rfl rfl rfl (by decide) rfl rfl hOK (Src.own (i := 6) (q := 0) rfl rfl (fun j v hj => by rw [Nat.zero_add]; exact hj)) (encK_one _) (by rw [List.length_map]; omega) ?_
                intro sK' kA' kc' hOK'
                conv => whnf
                refine OAnd.mk ⟨rfl, rfl, rfl, rfl, rfl, rfl, trivial⟩ ?_
                conv => whnf
                refine OOK.appendRowB (Val.mk yk yi yt yl yA yc yks yB yd) 4 Val.len rfl rfl rfl rfl (.inl ⟨_, rfl⟩) rfl (size := 5) (bytes := 80) rfl rfl rfl (by decide) rfl rfl hOV (Src.own (i := 7) (q := 0) rfl rfl (fun j v hj => by rw [Nat.zero_add]; exact hj)) (Val.one _) (by rw [List.length_map]; omega) ?_
                intro sV' vA' vc' hOV'
                conv => whnf
                refine OAnd.mk ⟨rfl, rfl, rfl, rfl, rfl, rfl, trivial⟩ ?_
                conv => whnf
                rw [ek, ev]
                rw [← ek2] at hOK'
                rw [← ev2] at hOV'
                refine OAnd.mk ⟨rfl, rfl, rfl, rfl, rfl, rfl, trivial⟩ ?_
                conv => whnf
                refine OAnd.mk ⟨rfl, rfl, rfl, rfl, rfl, rfl, trivial⟩ ?_
                conv => whnf
                exact ⟨⟨i + 1, sK', kA', kc', sV', vA', vc'⟩, [0, 1, 2, 8, 9], Sub.of (by decide) rfl ⟨rfl, rfl, rfl, rfl, int_eq (i64_in (by omega) (by omega)), trivial⟩, ⟨hlt, hOK', hOV'⟩, by show l'.length - (i + 1) < l'.length - i; omega⟩
        · skip
          refine OAnd.mk ?_ ?_
          · conv => whnf
            conv => whnf
            refine OAnd.mk ⟨rfl, rfl, rfl, rfl, rfl, rfl, trivial⟩ ?_
            conv => whnf
            refine OAnd.mk ?_ ?_
            · conv => whnf
              intro bk
              conv => whnf
              refine OAnd.mk ⟨rfl, rfl, rfl, rfl, rfl, rfl, trivial⟩ ?_
              conv => whnf
              refine OAnd.mk ?_ ?_
              · conv => whnf
                refine OOK.appendRowB ka 3 encK_len rfl rfl rfl rfl (.inl ⟨_, rfl⟩) rfl (size := 1) (bytes := 16) rfl rfl rfl (by decide) rfl rfl hOK (Src.own (i := 6) (q := 0) rfl rfl (fun j v hj => by rw [Nat.zero_add]; exact hj)) (encK_one _) (by rw [List.length_map]; omega) ?_
                intro sK' kA' kc' hOK'
                conv => whnf
                refine OAnd.mk ⟨rfl, rfl, rfl, rfl, rfl, rfl, trivial⟩ ?_
                conv => whnf
                intro bv
                conv => whnf
                refine OAnd.mk ⟨rfl, rfl, rfl, rfl, rfl, rfl, trivial⟩ ?_
                conv => whnf
                refine OOK.appendRowB (Val.mk yk yi yt yl yA yc yks yB yd) 4 Val.len rfl rfl rfl rfl (.inl ⟨_, rfl⟩) rfl (size := 5) (bytes := 80) rfl rfl rfl (by decide) rfl rfl hOV (Src.own (i := 8) (q := 0) rfl rfl (fun j v hj => by rw [Nat.zero_add]; exact hj)) (Val.one _) (by rw [List.length_map]; omega) ?_
                intro sV' vA' vc' hOV'
                conv => whnf
                refine OAnd.mk ⟨rfl, rfl, rfl, rfl, rfl, rfl, trivial⟩ ?_
                conv => whnf
                rw [ek, ev]
                rw [← ek2] at hOK'
                rw [← ev2] at hOV'
                refine OAnd.mk ⟨rfl, rfl, rfl, rfl, rfl, rfl, trivial⟩ ?_
                conv => whnf
                refine OAnd.mk ⟨rfl, rfl, rfl, rfl, rfl, rfl, trivial⟩ ?_
                conv => whnf
                exact ⟨⟨i + 1, sK', kA', kc', sV', vA', vc'⟩, [0, 1, 2, 7, 9], Sub.of (by decide) rfl ⟨rfl, rfl, rfl, rfl, int_eq (i64_in (by omega) (by omega)), trivial⟩, ⟨hlt, hOK', hOV'⟩, by show l'.length - (i + 1) < l'.length - i; omega⟩
              · skip
                conv => whnf
                intro bv
                conv => whnf
                refine OAnd.mk ⟨rfl, rfl, rfl, rfl, rfl, rfl, trivial⟩ ?_
                conv => whnf
                refine OOK.appendRowB ka 3 encK_len rfl rfl rfl rfl (.inl ⟨_, rfl⟩) rfl (size := 1) (bytes := 16) rfl rfl rfl (by decide) rfl rfl hOK (Src.own (i := 6) (q := 0) rfl rfl (fun j v hj => by rw [Nat.zero_add]; exact hj)) (encK_one _) (by rw [List.length_map]; omega) ?_
                intro sK' kA' kc' hOK'
                conv => whnf
                refine OAnd.mk ⟨rfl, rfl, rfl, rfl, rfl, rfl, trivial⟩ ?_
                conv => whnf
                refine OOK.appendRowB (Val.mk yk yi yt yl yA yc yks yB yd) 4 Val.len rfl rfl rfl rfl (.inl ⟨_, rfl⟩) rfl (size := 5) (bytes := 80) rfl rfl rfl (by decide) rfl rfl hOV (Src.own (i := 7) (q := 0) rfl rfl (fun j v hj => by rw [Nat.zero_add]; exact hj)) (Val.one _) (by rw [List.length_map]; omega) ?_
                intro sV' vA' vc' hOV'
                conv => whnf
                refine OAnd.mk ⟨rfl, rfl, rfl, rfl, rfl, rfl, trivial⟩ ?_
                conv => whnf
                rw [ek, ev]
                rw [← ek2] at hOK'
                rw [← ev2] at hOV'
                refine OAnd.mk ⟨rfl, rfl, rfl, rfl, rfl, rfl, trivial⟩ ?_
                conv => whnf
                refine OAnd.mk ⟨rfl, rfl, rfl, rfl, rfl, rfl, trivial⟩ ?_
                conv => whnf
                exact ⟨⟨i + 1, sK', kA', kc', sV', vA', vc'⟩, [0, 1, 2, 8, 9], Sub.of (by decide) rfl ⟨rfl, rfl, rfl, rfl, int_eq (i64_in (by omega) (by omega)), trivial⟩, ⟨hlt, hOK', hOV'⟩, by show l'.length - (i + 1) < l'.length - i; omega⟩
            · skip
              conv => whnf
              intro bv
              conv => whnf
              refine OAnd.mk ⟨rfl, rfl, rfl, rfl, rfl, rfl, trivial⟩ ?_
              conv => whnf
              intro bk
              conv => whnf
              refine OAnd.mk ⟨rfl, rfl, rfl, rfl, rfl, rfl, trivial⟩ ?_
              conv => whnf
              refine OOK.appendRowB ka 3 encK_len rfl rfl rfl rfl (.inl ⟨_, rfl⟩) rfl (size := 1) (bytes := 16) rfl rfl rfl (by decide) rfl rfl hOK (Src.own (i := 7) (q := 0) rfl rfl (fun j v hj => by rw [Nat.zero_add]; exact hj)) (encK_one _) (by rw [List.length_map]; omega) ?_
              intro sK' kA' kc' hOK'
              conv => whnf
              refine OAnd.mk ⟨rfl, rfl, rfl, rfl, rfl, rfl, trivial⟩ ?_
              conv => whnf
              refine OOK.appendRowB (Val.mk yk yi yt yl yA yc yks yB yd) 4 Val.len rfl rfl rfl rfl (.inl ⟨_, rfl⟩) rfl (size := 5) (bytes := 80) rfl rfl rfl (by decide) rfl rfl hOV (Src.own (i := 6) (q := 0) rfl rfl (fun j v hj => by rw [Nat.zero_add]; exact hj)) (Val.one _) (by rw [List.length_map]; omega) ?_
              intro sV' vA' vc' hOV'
              conv => whnf
              refine OAnd.mk ⟨rfl, rfl, rfl, rfl, rfl, rfl, trivial⟩ ?_
              conv => whnf
              rw [ek, ev]
              rw [← ek2] at hOK'
              rw [← ev2] at hOV'
              refine OAnd.mk ⟨rfl, rfl, rfl, rfl, rfl, rfl, trivial⟩ ?_
              conv => whnf
              refine OAnd.mk ⟨rfl, rfl, rfl, rfl, rfl, rfl, trivial⟩ ?_
              conv => whnf
              exact ⟨⟨i + 1, sK', kA', kc', sV', vA', vc'⟩, [0, 1, 2, 8, 9], Sub.of (by decide) rfl ⟨rfl, rfl, rfl, rfl, int_eq (i64_in (by omega) (by omega)), trivial⟩, ⟨hlt, hOK', hOV'⟩, by show l'.length - (i + 1) < l'.length - i; omega⟩
          · skip
            conv => whnf
            intro bv
            conv => whnf
            refine OAnd.mk ⟨rfl, rfl, rfl, rfl, rfl, rfl, trivial⟩ ?_
            conv => whnf
            refine OAnd.mk ?_ ?_
            · conv => whnf
              intro bk
              conv => whnf
              refine OAnd.mk ⟨rfl, rfl, rfl, rfl, rfl, rfl, trivial⟩ ?_
              conv => whnf
              refine OAnd.mk ?_ ?_
              · conv => whnf
                refine OOK.appendRowB ka 3 encK_len rfl rfl rfl rfl (.inl ⟨_, rfl⟩) rfl (size := 1) (bytes := 16) rfl rfl rfl (by decide) rfl rfl hOK (Src.own (i := 7) (q := 0) rfl rfl (fun j v hj => by rw [Nat.zero_add]; exact hj)) (encK_one _) (by rw [List.length_map]; omega) ?_
                intro sK' kA' kc' hOK'
                conv => whnf
                refine OAnd.mk ⟨rfl, rfl, rfl, rfl, rfl, rfl, trivial⟩ ?_
                conv => whnf
                conv => whnf
                refine OAnd.mk ⟨rfl, rfl, rfl, rfl, rfl, rfl, trivial⟩ ?_
                conv => whnf
                refine OOK.appendRowB (Val.mk yk yi yt yl yA yc yks yB yd) 4 Val.len rfl rfl rfl rfl (.inl ⟨_, rfl⟩) rfl (size := 5) (bytes := 80) rfl rfl rfl (by decide) rfl rfl hOV (Src.own (i := 6) (q := 0) rfl rfl (fun j v hj => by rw [Nat.zero_add]; exact hj)) (Val.one _) (by rw [List.length_map]; omega) ?_
                intro sV' vA' vc' hOV'
                conv => whnf
                refine OAnd.mk ⟨rfl, rfl, rfl, rfl, rfl, rfl, trivial⟩ ?_
                conv => whnf
                rw [ek, ev]
                rw [← ek2] at hOK'
                rw [← ev2] at hOV'
                refine OAnd.mk ⟨rfl, rfl, rfl, rfl, rfl, rfl, trivial⟩ ?_
                conv => whnf
                refine OAnd.mk ⟨rfl, rfl, rfl, rfl, rfl, rfl, trivial⟩ ?_
                conv => whnf
                exact ⟨⟨i + 1, sK', kA', kc', sV', vA', vc'⟩, [0, 1, 2, 8, 9], Sub.of (by decide) rfl ⟨rfl, rfl, rfl, rfl, int_eq (i64_in (by omega) (by omega)), trivial⟩, ⟨hlt, hOK', hOV'⟩, by show l'.length - (i + 1) < l'.length - i; omega⟩
              · skip
                conv => whnf
                conv => whnf
                refine OAnd.mk ⟨rfl, rfl, rfl, rfl, rfl, rfl, trivial⟩ ?_
                conv => whnf
                refine OOK.appendRowB ka 3 encK_len rfl rfl rfl rfl (.inl ⟨_, rfl⟩) rfl (size := 1) (bytes := 16) rfl rfl rfl (by decide) rfl rfl hOK (Src.own (i := 7) (q := 0) rfl rfl (fun j v hj => by rw [Nat.zero_add]; exact hj)) (encK_one _) (by rw [List.length_map]; omega) ?_
                intro sK' kA' kc' hOK'
                conv => whnf
                refine OAnd.mk ⟨rfl, rfl, rfl, rfl, rfl, rfl, trivial⟩ ?_
                conv => whnf
                refine OOK.appendRowB (Val.mk yk yi yt yl yA yc yks yB yd) 4 Val.len rfl rfl rfl rfl (.inl ⟨_, rfl⟩) rfl (size := 5) (bytes := 80) rfl rfl rfl (by decide) rfl rfl hOV (Src.own (i := 6) (q := 0) rfl rfl (fun j v hj => by rw [Nat.zero_add]; exact hj)) (Val.one _) (by rw [List.length_map]; omega) ?_
                intro sV' vA' vc' hOV'
                conv => whnf
                refine OAnd.mk ⟨rfl, rfl, rfl, rfl, rfl, rfl, trivial⟩ ?_
                conv => whnf
                rw [ek, ev]
                rw [← ek2] at hOK'
                rw [← ev2] at hOV'
                refine OAnd.mk ⟨rfl, rfl, rfl, rfl, rfl, rfl, trivial⟩ ?_
                conv => whnf
                refine OAnd.mk ⟨rfl, rfl, rfl, rfl, rfl, rfl, trivial⟩ ?_
                conv => whnf
                exact ⟨⟨i + 1, sK', kA', kc', sV', vA', vc'⟩, [0, 1, 2, 8, 9], Sub.of (by decide) rfl ⟨rfl, rfl, rfl, rfl, int_eq (i64_in (by omega) (by omega)), trivial⟩, ⟨hlt, hOK', hOV'⟩, by show l'.length - (i + 1) < l'.length - i; omega⟩
            · skip
              conv => whnf
              conv => whnf
              refine OAnd.mk ⟨rfl, rfl, rfl, rfl, rfl, rfl, trivial⟩ ?_
              conv => whnf
              intro bk
              conv => whnf
              refine OAnd.mk ⟨rfl, rfl, rfl, rfl, rfl, rfl, trivial⟩ ?_
              conv => whnf
              refine OOK.appendRowB ka 3 encK_len rfl rfl rfl rfl (.inl ⟨_, rfl⟩) rfl (size := 1) (bytes := 16) rfl rfl rfl (by decide) rfl rfl hOK (Src.own (i := 7) (q := 0) rfl rfl (fun j v hj => by rw [Nat.zero_add]; exact hj)) (encK_one _) (by rw [List.length_map]; omega) ?_
              intro sK' kA' kc' hOK'
              conv => whnf
              refine OAnd.mk ⟨rfl, rfl, rfl, rfl, rfl, rfl, trivial⟩ ?_
              conv => whnf
              refine OOK.appendRowB (Val.mk yk yi yt yl yA yc yks yB yd) 4 Val.len rfl rfl rfl rfl (.inl ⟨_, rfl⟩) rfl (size := 5) (bytes := 80) rfl rfl rfl (by decide) rfl rfl hOV (Src.own (i := 6) (q := 0) rfl rfl (fun j v hj => by rw [Nat.zero_add]; exact hj)) (Val.one _) (by rw [List.length_map]; omega) ?_
              intro sV' vA' vc' hOV'
              conv => whnf
              refine OAnd.mk ⟨rfl, rfl, rfl, rfl, rfl, rfl, trivial⟩ ?_
              conv => whnf
              rw [ek, ev]
              rw [← ek2] at hOK'
              rw [← ev2] at hOV'
              refine OAnd.mk ⟨rfl, rfl, rfl, rfl, rfl, rfl, trivial⟩ ?_
              conv => whnf
              refine OAnd.mk ⟨rfl, rfl, rfl, rfl, rfl, rfl, trivial⟩ ?_
              conv => whnf
              exact ⟨⟨i + 1, sK', kA', kc', sV', vA', vc'⟩, [0, 1, 2, 8, 9], Sub.of (by decide) rfl ⟨rfl, rfl, rfl, rfl, int_eq (i64_in (by omega) (by omega)), trivial⟩, ⟨hlt, hOK', hOV'⟩, by show l'.length - (i + 1) < l'.length - i; omega⟩
      · skip
        refine OAnd.mk ?_ ?_
        · conv => whnf
          intro bk
          conv => whnf
          refine OAnd.mk ⟨rfl, rfl, rfl, rfl, rfl, rfl, trivial⟩ ?_
          conv => whnf
          refine OAnd.mk ?_ ?_
          · conv => whnf
            conv => whnf
            refine OAnd.mk ⟨rfl, rfl, rfl, rfl, rfl, rfl, trivial⟩ ?_
            conv => whnf
            refine OAnd.mk ?_ ?_
            · conv => whnf
              refine OOK.appendRowB ka 3 encK_len rfl rfl rfl rfl (.inl ⟨_, rfl⟩) rfl (size := 1) (bytes := 16) rfl rfl rfl (by decide) rfl rfl hOK (Src.own (i := 6) (q := 0) rfl rfl (fun j v hj => by rw [Nat.zero_add]; exact hj)) (encK_one _) (by rw [List.length_map]; omega) ?_
              intro sK' kA' kc' hOK'
              conv => whnf
              refine OAnd.mk ⟨rfl, rfl, rfl, rfl, rfl, rfl, trivial⟩ ?_
              conv => whnf
              refine OAnd.mk ?_ ?_
              · conv => whnf
                conv => whnf
                refine OAnd.mk ⟨rfl, rfl, rfl, rfl, rfl, rfl, trivial⟩ ?_
                conv => whnf
                intro bv
                conv => whnf
                refine OAnd.mk ⟨rfl, rfl, rfl, rfl, rfl, rfl, trivial⟩ ?_
                conv => whnf
                refine OOK.appendRowB (Val.mk yk yi yt yl yA yc yks yB yd) 4 Val.len rfl rfl rfl rfl (.inl ⟨_, rfl⟩) rfl (size := 5) (bytes := 80) rfl rfl rfl (by decide) rfl rfl hOV (Src.own (i := 8) (q := 0) rfl rfl (fun j v hj => by rw [Nat.zero_add]; exact hj)) (Val.one _) (by rw [List.length_map]; omega) ?_
                intro sV' vA' vc' hOV'
                conv => whnf
                refine OAnd.mk ⟨rfl, rfl, rfl, rfl, rfl, rfl, trivial⟩ ?_
                conv => whnf
                rw [ek, ev]
                rw [← ek2] at hOK'
                rw [← ev2] at hOV'
                refine OAnd.mk ⟨rfl, rfl, rfl, rfl, rfl, rfl, trivial⟩ ?_
                conv => whnf
                refine OAnd.mk ⟨rfl, rfl, rfl, rfl, rfl, rfl, trivial⟩ ?_
                conv => whnf
                exact ⟨⟨i + 1, sK', kA', kc', sV', vA', vc'⟩, [0, 1, 2, 7, 9], Sub.of (by decide) rfl ⟨rfl, rfl, rfl, rfl, int_eq (i64_in (by omega) (by omega)), trivial⟩, ⟨hlt, hOK', hOV'⟩, by show l'.length - (i + 1) < l'.length - i; omega⟩
              · skip
                conv => whnf
                intro bv
                conv => whnf
                refine OAnd.mk ⟨rfl, rfl, rfl, rfl, rfl, rfl, trivial⟩ ?_
                conv => whnf
                conv => whnf
                refine OAnd.mk ⟨rfl, rfl, rfl, rfl, rfl, rfl, trivial⟩ ?_
                conv => whnf
                refine OOK.appendRowB (Val.mk yk yi yt yl yA yc yks yB yd) 4 Val.len rfl rfl rfl rfl (.inl ⟨_, rfl⟩) rfl (size := 5) (bytes := 80) rfl rfl rfl (by decide) rfl rfl hOV (Src.own (i := 8) (q := 0) rfl rfl (fun j v hj => by rw [Nat.zero_add]; exact hj)) (Val.one _) (by rw [List.length_map]; omega) ?_
                intro sV' vA' vc' hOV'
                conv => whnf
                refine OAnd.mk ⟨rfl, rfl, rfl, rfl, rfl, rfl, trivial⟩ ?_
                conv => whnf
                rw [ek, ev]
                rw [← ek2] at hOK'
                rw [← ev2] at hOV'
                refine OAnd.mk ⟨rfl, rfl, rfl, rfl, rfl, rfl, trivial⟩ ?_
                conv => whnf
                refine OAnd.mk ⟨rfl, rfl, rfl, rfl, rfl, rfl, trivial⟩ ?_
                conv => whnf
                exact ⟨⟨i + 1, sK', kA', kc', sV', vA', vc'⟩, [0, 1, 2, 7, 9], Sub.of (by decide) rfl ⟨rfl, rfl, rfl, rfl, int_eq (i64_in (by omega) (by omega)), trivial⟩, ⟨hlt, hOK', hOV'⟩, by show l'.length - (i + 1) < l'.length - i; omega⟩
            · skip
              refine OAnd.mk ?_ ?_
              · conv => whnf
                conv => whnf
                refine OAnd.mk ⟨rfl, rfl, rfl, rfl, rfl, rfl, trivial⟩ ?_
                conv => whnf
                refine OAnd.mk ?_ ?_
                · conv => whnf
                  refine OOK.appendRowB ka 3 encK_len rfl rfl rfl rfl (.inl ⟨_, rfl⟩) rfl (size := 1) (bytes := 16) rfl rfl rfl (by decide) rfl rfl hOK (Src.own (i := 6) (q := 0) rfl rfl (fun j v hj => by rw [Nat.zero_add]; exact hj)) (encK_one _) (by rw [List.length_map]; omega) ?_
                  intro sK' kA' kc' hOK'
                  conv => whnf
                  refine OAnd.mk ⟨rfl, rfl, rfl, rfl, rfl, rfl, trivial⟩ ?_
                  conv => whnf
                  intro bv
                  conv => whnf
                  refine OAnd.mk ⟨rfl, rfl, rfl, rfl, rfl, rfl, trivial⟩ ?_
                  conv => whnf
                  refine OOK.appendRowB (Val.mk yk yi yt yl yA yc yks yB yd) 4 Val.len rfl rfl rfl rfl (.inl ⟨_, rfl⟩) rfl (size := 5) (bytes := 80) rfl rfl rfl (by decide) rfl rfl hOV (Src.own (i := 8) (q := 0) rfl rfl (fun j v hj => by rw [Nat.zero_add]; exact hj)) (Val.one _) (by rw [List.length_map]; omega) ?_
                  intro sV' vA' vc' hOV'
                  conv => whnf
                  refine OAnd.mk ⟨rfl, rfl, rfl, rfl, rfl, rfl, trivial⟩ ?_
                  conv => whnf
                  rw [ek, ev]
                  rw [← ek2] at hOK'
                  rw [← ev2] at hOV'
                  refine OAnd.mk ⟨rfl, rfl, rfl, rfl, rfl, rfl, trivial⟩ ?_
                  conv => whnf
                  refine OAnd.mk ⟨rfl, rfl, rfl, rfl, rfl, rfl, trivial⟩ ?_
                  conv => whnf
                  exact ⟨⟨i + 1, sK', kA', kc', sV', vA', vc'⟩, [0, 1, 2, 7, 9], Sub.of (by decide) rfl ⟨rfl, rfl, rfl, rfl, int_eq (i64_in (by omega) (by omega)), trivial⟩, ⟨hlt, hOK', hOV'⟩, by show l'.length - (i + 1) < l'.length - i; omega⟩
                · skip
                  conv => whnf
                  intro bv
                  conv => whnf
                  refine OAnd.mk ⟨rfl, rfl, rfl, rfl, rfl, rfl, trivial⟩ ?_
                  conv => whnf
                  refine OOK.appendRowB ka 3 encK_len rfl rfl rfl rfl (.inl ⟨_, rfl⟩) rfl (size := 1) (bytes := 16) rfl rfl rfl (by decide) rfl rfl hOK (Src.own (i := 6) (q := 0) rfl rfl (fun j v hj => by rw [Nat.zero_add]; exact hj)) (encK_one _) (by rw [List.length_map]; omega) ?_
                  intro sK' kA' kc' hOK'
                  conv => whnf
                  refine OAnd.mk ⟨rfl, rfl, rfl, rfl, rfl, rfl, trivial⟩ ?_
                  conv => whnf
                  refine OOK.appendRowB (Val.mk yk yi yt yl yA yc yks yB yd) 4 Val.len rfl rfl rfl rfl (.inl ⟨_, rfl⟩) rfl (size := 5) (bytes := 80) rfl rfl rfl (by decide) rfl rfl hOV (Src.own (i := 7) (q := 0) rfl rfl (fun j v hj => by rw [Nat.zero_add]; exact hj)) (Val.one _) (by rw [List.length_map]; omega) ?_
                  intro sV' vA' vc' hOV'
                  conv => whnf
                  refine OAnd.mk ⟨rfl, rfl, rfl, rfl, rfl, rfl, trivial⟩ ?_
                  conv => whnf
                  rw [ek, ev]
                  rw [← ek2] at hOK'
                  rw [← ev2] at hOV'
                  refine OAnd.mk ⟨rfl, rfl, rfl, rfl, rfl, rfl, trivial⟩ ?_
                  conv => whnf
                  refine OAnd.mk ⟨rfl, rfl, rfl, rfl, rfl, rfl, trivial⟩ ?_
                  conv => whnf
                  exact ⟨⟨i + 1, sK', kA', kc', sV', vA', vc'⟩, [0, 1, 2, 8, 9], Sub.of (by decide) rfl ⟨rfl, rfl, rfl, rfl, int_eq (i64_in (by omega) (by omega)), trivial⟩, ⟨hlt, hOK', hOV'⟩, by show l'.length - (i + 1) < l'.length - i; omega⟩
              · skip
                conv => whnf
                intro bv
                conv => whnf
                refine OAnd.mk ⟨rfl, rfl, rfl, rfl, rfl, rfl, trivial⟩ ?_
                conv => whnf
                refine OAnd.mk ?_ ?_
                · conv => whnf
                  refine OOK.appendRowB ka 3 encK_len rfl rfl rfl rfl (.inl ⟨_, rfl⟩) rfl (size := 1) (bytes := 16) rfl rfl rfl (by decide) rfl rfl hOK (Src.own (i := 6) (q := 0) rfl rfl (fun j v hj => by rw [Nat.zero_add]; exact hj)) (encK_one _) (by rw [List.length_map]; omega) ?_
                  intro sK' kA' kc' hOK'
                  conv => whnf
                  refine OAnd.mk ⟨rfl, rfl, rfl, rfl, rfl, rfl, trivial⟩ ?_
                  conv => whnf
                  conv => whnf
                  refine OAnd.mk ⟨rfl, rfl, rfl, rfl, rfl, rfl, trivial⟩ ?_
                  conv => whnf
                  refine OOK.appendRowB (Val.mk yk yi yt yl yA yc yks yB yd) 4 Val.len rfl rfl rfl rfl (.inl ⟨_, rfl⟩) rfl (size := 5) (bytes := 80) rfl rfl rfl (by decide) rfl rfl hOV (Src.own (i := 7) (q := 0) rfl rfl (fun j v hj => by rw [Nat.zero_add]; exact hj)) (Val.one _) (by rw [List.length_map]; omega) ?_
                  intro sV' vA' vc' hOV'
                  conv => whnf
                  refine OAnd.mk ⟨rfl, rfl, rfl, rfl, rfl, rfl, trivial⟩ ?_
                  conv => whnf
                  rw [ek, ev]
                  rw [← ek2] at hOK'
                  rw [← ev2] at hOV'
                  refine OAnd.mk ⟨rfl, rfl, rfl, rfl, rfl, rfl, trivial⟩ ?_
                  conv => whnf
                  refine OAnd.mk ⟨rfl, rfl, rfl, rfl, rfl, rfl, trivial⟩ ?_
                  conv => whnf
                  exact ⟨⟨i + 1, sK', kA', kc', sV', vA', vc'⟩, [0, 1, 2, 8, 9], Sub.of (by decide) rfl ⟨rfl, rfl, rfl, rfl, int_eq (i64_in (by omega) (by omega)), trivial⟩, ⟨hlt, hOK', hOV'⟩, by show l'.length - (i + 1) < l'.length - i; omega⟩
                · skip
                  conv => whnf
                  conv => whnf
                  refine OAnd.mk ⟨rfl, rfl, rfl, rfl, rfl, rfl, trivial⟩ ?_
                  conv => whnf
                  refine OOK.appendRowB ka 3 encK_len rfl rfl rfl rfl (.inl ⟨_, rfl⟩) rfl (size := 1) (bytes := 16) rfl rfl rfl (by decide) rfl rfl hOK (Src.own (i := 6) (q := 0) rfl rfl (fun j v hj => by rw [Nat.zero_add]; exact hj)) (encK_one _) (by rw [List.length_map]; omega) ?_
                  intro sK' kA' kc' hOK'
                  conv => whnf
                  refine OAnd.mk ⟨rfl, rfl, rfl, rfl, rfl, rfl, trivial⟩ ?_
                  conv => whnf
                  refine OOK.appendRowB (Val.mk yk yi yt yl yA yc yks yB yd) 4 Val.len rfl rfl rfl rfl (.inl ⟨_, rfl⟩) rfl (size := 5) (bytes := 80) rfl rfl rfl (by decide) rfl rfl hOV (Src.own (i := 7) (q := 0) rfl rfl (fun j v hj => by rw [Nat.zero_add]; exact hj)) (Val.one _) (by rw [List.length_map]; omega) ?_
                  intro sV' vA' vc' hOV'
                  conv => whnf
                  refine OAnd.mk ⟨rfl, rfl, rfl, rfl, rfl, rfl, trivial⟩ ?_
                  conv => whnf
                  rw [ek, ev]
                  rw [← ek2] at hOK'
                  rw [← ev2] at hOV'
                  refine OAnd.mk ⟨rfl, rfl, rfl, rfl, rfl, rfl, trivial⟩ ?_
                  conv => whnf
                  refine OAnd.mk ⟨rfl, rfl, rfl, rfl, rfl, rfl, trivial⟩ ?_
                  conv => whnf
                  exact ⟨⟨i + 1, sK', kA', kc', sV', vA', vc'⟩, [0, 1, 2, 8, 9], Sub.of (by decide) rfl ⟨rfl, rfl, rfl, rfl, int_eq (i64_in (by omega) (by omega)), trivial⟩, ⟨hlt, hOK', hOV'⟩, by show l'.length - (i + 1) < l'.length - i; omega⟩
          · skip
            refine OAnd.mk ?_ ?_
            · conv => whnf
              conv => whnf
              refine OAnd.mk ⟨rfl, rfl, rfl, rfl, rfl, rfl, trivial⟩ ?_
              conv => whnf
              refine OAnd.mk ?_ ?_
              · conv => whnf
                conv => whnf
                refine OAnd.mk ⟨rfl, rfl, rfl, rfl, rfl, rfl, trivial⟩ ?_
                conv => whnf
                refine OAnd.mk ?_ ?_
                · conv => whnf
                  refine OOK.appendRowB ka 3 encK_len rfl rfl rfl rfl (.inl ⟨_, rfl⟩) rfl (size := 1) (bytes := 16) rfl rfl rfl (by decide) rfl rfl hOK (Src.own (i := 6) (q := 0) rfl rfl (fun j v hj => by rw [Nat.zero_add]; exact hj)) (encK_one _) (by rw [List.length_map]; omega) ?_
                  intro sK' kA' kc' hOK'
                  conv => whnf
                  refine OAnd.mk ⟨rfl, rfl, rfl, rfl, rfl, rfl, trivial⟩ ?_
                  conv => whnf
                  intro bv
                  conv => whnf
                  refine OAnd.mk ⟨rfl, rfl, rfl, rfl, rfl, rfl, trivial⟩ ?_
                  conv => whnf
                  refine OOK.appendRowB (Val.mk yk yi yt yl yA yc yks yB yd) 4 Val.len rfl rfl rfl rfl (.inl ⟨_, rfl⟩) rfl (size := 5) (bytes := 80) rfl rfl rfl (by decide) rfl rfl hOV (Src.own (i := 8) (q := 0) rfl rfl (fun j v hj => by rw [Nat.zero_add]; exact hj)) (Val.one _) (by rw [List.length_map]; omega) ?_
                  intro sV' vA' vc' hOV'
                  conv => whnf
                  refine OAnd.mk ⟨rfl, rfl, rfl, rfl, rfl, rfl, trivial⟩ ?_
                  conv => whnf
                  rw [ek, ev]
                  rw [← ek2] at hOK'
                  rw [← ev2] at hOV'
                  refine OAnd.mk ⟨rfl, rfl, rfl, rfl, rfl, rfl, trivial⟩ ?_
                  conv => whnf
                  refine OAnd.mk ⟨rfl, rfl, rfl, rfl, rfl, rfl, trivial⟩ ?_
                  conv => whnf
                  exact ⟨⟨i + 1, sK', kA', kc', sV', vA', vc'⟩, [0, 1, 2, 7, 9], Sub.of (by decide) rfl ⟨rfl, rfl, rfl, rfl, int_eq (i64_in (by omega) (by omega)), trivial⟩, ⟨hlt, hOK', hOV'⟩, by show l'.length - (i + 1) < l'.length - i; omega⟩
                · skip
                  conv => whnf
                  intro bv
                  conv => whnf
                  refine OAnd.mk ⟨rfl, rfl, rfl, rfl, rfl, rfl, trivial⟩ ?_
                  conv => whnf
                  refine OOK.appendRowB ka 3 encK_len rfl rfl rfl rfl (.inl ⟨_, rfl⟩) rfl (size := 1) (bytes := 16) rfl rfl rfl (by decide) rfl rfl hOK (Src.own (i := 6) (q := 0) rfl rfl (fun j v hj => by rw [Nat.zero_add]; exact hj)) (encK_one _) (by rw [List.length_map]; omega) ?_
                  intro sK' kA' kc' hOK'
                  conv => whnf
                  refine OAnd.mk ⟨rfl, rfl, rfl, rfl, rfl, rfl, trivial⟩ ?_
                  conv => whnf
                  refine OOK.appendRowB (Val.mk yk yi yt yl yA yc yks yB yd) 4 Val.len rfl rfl rfl rfl (.inl ⟨_, rfl⟩) rfl (size := 5) (bytes := 80) rfl rfl rfl (by decide) rfl rfl hOV (Src.own (i := 7) (q := 0) rfl rfl (fun j v hj => by rw [Nat.zero_add]; exact hj)) (Val.one _) (by rw [List.length_map]; omega) ?_
                  intro sV' vA' vc' hOV'
                  conv => whnf
                  refine OAnd.mk ⟨rfl, rfl, rfl, rfl, rfl, rfl, trivial⟩ ?_
                  conv => whnf
                  rw [ek, ev]
                  rw [← ek2] at hOK'
                  rw [← ev2] at hOV'
                  refine OAnd.mk ⟨rfl, rfl, rfl, rfl, rfl, rfl, trivial⟩ ?_
                  conv => whnf
                  refine OAnd.mk ⟨rfl, rfl, rfl, rfl, rfl, rfl, trivial⟩ ?_
                  conv => whnf
                  exact ⟨⟨i + 1, sK', kA', kc', sV', vA', vc'⟩, [0, 1, 2, 8, 9], Sub.of (by decide) rfl ⟨rfl, rfl, rfl, rfl, int_eq (i64_in (by omega) (by omega)), trivial⟩, ⟨hlt, hOK', hOV'⟩, by show l'.length - (i + 1) < l'.length - i; omega⟩
              · skip
                conv => whnf
                intro bv
                conv => whnf
                refine OAnd.mk ⟨rfl, rfl, rfl, rfl, rfl, rfl, trivial⟩ ?_
                conv => whnf
                conv => whnf
                refine OAnd.mk ⟨rfl, rfl, rfl, rfl, rfl, rfl, trivial⟩ ?_
                conv => whnf
                refine OOK.appendRowB ka 3 encK_len rfl rfl rfl rfl (.inl ⟨_, rfl⟩) rfl (size := 1) (bytes := 16) rfl rfl rfl (by decide) rfl rfl hOK (Src.own (i := 6) (q := 0) rfl rfl (fun j v hj => by rw [Nat.zero_add]; exact hj)) (encK_one _) (by rw [List.length_map]; omega) ?_
                intro sK' kA' kc' hOK'
                conv => whnf
                refine OAnd.mk ⟨rfl, rfl, rfl, rfl, rfl, rfl, trivial⟩ ?_
                conv => whnf
                refine OOK.appendRowB (Val.mk yk yi yt yl yA yc yks yB yd) 4 Val.len rfl rfl rfl rfl (.inl ⟨_, rfl⟩) rfl (size := 5) (bytes := 80) rfl rfl rfl (by decide) rfl rfl hOV (Src.own (i := 7) (q := 0) rfl rfl (fun j v hj => by rw [Nat.zero_add]; exact hj)) (Val.one _) (by rw [List.length_map]; omega) ?_
                intro sV' vA' vc' hOV'
                conv => whnf
                refine OAnd.mk ⟨rfl, rfl, rfl, rfl, rfl, rfl, trivial⟩ ?_
                conv => whnf
                rw [ek, ev]
                rw [← ek2] at hOK'
                rw [← ev2] at hOV'
                refine OAnd.mk ⟨rfl, rfl, rfl, rfl, rfl, rfl, trivial⟩ ?_
                conv => whnf
                refine OAnd.mk ⟨rfl, rfl, rfl, rfl, rfl, rfl, trivial⟩ ?_
                conv => whnf
                exact ⟨⟨i + 1, sK', kA', kc', sV', vA', vc'⟩, [0, 1, 2, 8, 9], Sub.of (by decide) rfl ⟨rfl, rfl, rfl, rfl, int_eq (i64_in (by omega) (by omega)), trivial⟩, ⟨hlt, hOK', hOV'⟩, by show l'.length - (i + 1) < l'.length - i; omega⟩
            · skip
              conv => whnf
              intro bv
              conv => whnf
              refine OAnd.mk ⟨rfl, rfl, rfl, rfl, rfl, rfl, trivial⟩ ?_
              conv => whnf
              refine OAnd.mk ?_ ?_
              · conv => whnf
                conv => whnf
                refine OAnd.mk ⟨rfl, rfl, rfl, rfl, rfl, rfl, trivial⟩ ?_
                conv => whnf
                refine OAnd.mk ?_ ?_
                · conv => whnf
                  refine OOK.appendRowB ka 3 encK_len rfl rfl rfl rfl (.inl ⟨_, rfl⟩) rfl (size := 1) (bytes := 16) rfl rfl rfl (by decide) rfl rfl hOK (Src.own (i := 6) (q := 0) rfl rfl (fun j v hj => by rw [Nat.zero_add]; exact hj)) (encK_one _) (by rw [List.length_map]; omega) ?_
                  intro sK' kA' kc' hOK'
                  conv => whnf
                  refine OAnd.mk ⟨rfl, rfl, rfl, rfl, rfl, rfl, trivial⟩ ?_
                  conv => whnf
                  conv => whnf
                  refine OAnd.mk ⟨rfl, rfl, rfl, rfl, rfl, rfl, trivial⟩ ?_
                  conv => whnf
                  refine OOK.appendRowB (Val.mk yk yi yt yl yA yc yks yB yd) 4 Val.len rfl rfl rfl rfl (.inl ⟨_, rfl⟩) rfl (size := 5) (bytes := 80) rfl rfl rfl (by decide) rfl rfl hOV (Src.own (i := 7) (q := 0) rfl rfl (fun j v hj => by rw [Nat.zero_add]; exact hj)) (Val.one _) (by rw [List.length_map]; omega) ?_
                  intro sV' vA' vc' hOV'
                  conv => whnf
                  refine OAnd.mk ⟨rfl, rfl, rfl, rfl, rfl, rfl, trivial⟩ ?_
                  conv => whnf
                  rw [ek, ev]
                  rw [← ek2] at hOK'
                  rw [← ev2] at hOV'
                  refine OAnd.mk ⟨rfl, rfl, rfl, rfl, rfl, rfl, trivial⟩ ?_
                  conv => whnf
                  refine OAnd.mk ⟨rfl, rfl, rfl, rfl, rfl, rfl, trivial⟩ ?_
                  conv => whnf
                  exact ⟨⟨i + 1, sK', kA', kc', sV', vA', vc'⟩, [0, 1, 2, 8, 9], Sub.of (by decide) rfl ⟨rfl, rfl, rfl, rfl, int_eq (i64_in (by omega) (by omega)), trivial⟩, ⟨hlt, hOK', hOV'⟩, by show l'.length - (i + 1) < l'.length - i; omega⟩
                · skip
                  conv => whnf
                  conv => whnf
                  refine OAnd.mk ⟨rfl, rfl, rfl, rfl, rfl, rfl, trivial⟩ ?_
                  conv => whnf
                  refine OOK.appendRowB ka 3 encK_len rfl rfl rfl rfl (.inl ⟨_, rfl⟩) rfl (size := 1) (bytes := 16) rfl rfl rfl (by decide) rfl rfl hOK (Src.own (i := 6) (q := 0) rfl rfl (fun j v hj => by rw [Nat.zero_add]; exact hj)) (encK_one _) (by rw [List.length_map]; omega) ?_
                  intro sK' kA' kc' hOK'
                  conv => whnf
                  refine OAnd.mk ⟨rfl, rfl, rfl, rfl, rfl, rfl, trivial⟩ ?_
                  conv => whnf
                  refine OOK.appendRowB (Val.mk yk yi yt yl yA yc yks yB yd) 4 Val.len rfl rfl rfl rfl (.inl ⟨_, rfl⟩) rfl (size := 5) (bytes := 80) rfl rfl rfl (by decide) rfl rfl hOV (Src.own (i := 7) (q := 0) rfl rfl (fun j v hj => by rw [Nat.zero_add]; exact hj)) (Val.one _) (by rw [List.length_map]; omega) ?_
                  intro sV' vA' vc' hOV'
                  conv => whnf
                  refine OAnd.mk ⟨rfl, rfl, rfl, rfl, rfl, rfl, trivial⟩ ?_
                  conv => whnf
                  rw [ek, ev]
                  rw [← ek2] at hOK'
                  rw [← ev2] at hOV'
                  refine OAnd.mk ⟨rfl, rfl, rfl, rfl, rfl, rfl, trivial⟩ ?_
                  conv => whnf
                  refine OAnd.mk ⟨rfl, rfl, rfl, rfl, rfl, rfl, trivial⟩ ?_
                  conv => whnf
                  exact ⟨⟨i + 1, sK', kA', kc', sV', vA', vc'⟩, [0, 1, 2, 8, 9], Sub.of (by decide) rfl ⟨rfl, rfl, rfl, rfl, int_eq (i64_in (by omega) (by omega)), trivial⟩, ⟨hlt, hOK', hOV'⟩, by show l'.length - (i + 1) < l'.length - i; omega⟩
              · skip
                conv => whnf
                conv => whnf
                refine OAnd.mk ⟨rfl, rfl, rfl, rfl, rfl, rfl, trivial⟩ ?_
                conv => whnf
                conv => whnf
                refine OAnd.mk ⟨rfl, rfl, rfl, rfl, rfl, rfl, trivial⟩ ?_
                conv => whnf
                refine OOK.appendRowB ka 3 encK_len rfl rfl rfl rfl (.inl ⟨_, rfl⟩) rfl (size := 1) (bytes := 16) rfl rfl rfl (by decide) rfl rfl hOK (Src.own (i := 6) (q := 0) rfl rfl (fun j v hj => by rw [Nat.zero_add]; exact hj)) (encK_one _) (by rw [List.length_map]; omega) ?_
                intro sK' kA' kc' hOK'
                conv => whnf
                refine OAnd.mk ⟨rfl, rfl, rfl, rfl, rfl, rfl, trivial⟩ ?_
                conv => whnf
                refine OOK.appendRowB (Val.mk yk yi yt yl yA yc yks yB yd) 4 Val.len rfl rfl rfl rfl (.inl ⟨_, rfl⟩) rfl (size := 5) (bytes := 80) rfl rfl rfl (by decide) rfl rfl hOV (Src.own (i := 7) (q := 0) rfl rfl (fun j v hj => by rw [Nat.zero_add]; exact hj)) (Val.one _) (by rw [List.length_map]; omega) ?_
                intro sV' vA' vc' hOV'
                conv => whnf
                refine OAnd.mk ⟨rfl, rfl, rfl, rfl, rfl, rfl, trivial⟩ ?_
                conv => whnf
                rw [ek, ev]
                rw [← ek2] at hOK'
                rw [← ev2] at hOV'
                refine OAnd.mk ⟨rfl, rfl, rfl, rfl, rfl, rfl, trivial⟩ ?_
                conv => whnf
                refine OAnd.mk ⟨rfl, rfl, rfl, rfl, rfl, rfl, trivial⟩ ?_
                conv => whnf
                exact ⟨⟨i + 1, sK', kA', kc', sV', vA', vc'⟩, [0, 1, 2, 8, 9], Sub.of (by decide) rfl ⟨rfl, rfl, rfl, rfl, int_eq (i64_in (by omega) (by omega)), trivial⟩, ⟨hlt, hOK', hOV'⟩, by show l'.length - (i + 1) < l'.length - i; omega⟩
        · skip
          refine OAnd.mk ?_ ?_
          · conv => whnf
            conv => whnf
            refine OAnd.mk ⟨rfl, rfl, rfl, rfl, rfl, rfl, trivial⟩ ?_
            conv => whnf
            refine OAnd.mk ?_ ?_
            · conv => whnf
              conv => whnf
              refine OAnd.mk ⟨rfl, rfl, rfl, rfl, rfl, rfl, trivial⟩ ?_
              conv => whnf
              refine OAnd.mk ?_ ?_
              · conv => whnf
                intro bk
                conv => whnf
                refine OAnd.mk ⟨rfl, rfl, rfl, rfl, rfl, rfl, trivial⟩ ?_
                conv => whnf
                refine OAnd.mk ?_ ?_
                · conv => whnf
                  refine OOK.appendRowB ka 3 encK_len rfl rfl rfl rfl (.inl ⟨_, rfl⟩) rfl (size := 1) (bytes := 16) rfl rfl rfl (by decide) rfl rfl hOK (Src.own (i := 6) (q := 0) rfl rfl (fun j v hj => by rw [Nat.zero_add]; exact hj)) (encK_one _) (by rw [List.length_map]; omega) ?_
                  intro sK' kA' kc' hOK'
                  conv => whnf
                  refine OAnd.mk ⟨rfl, rfl, rfl, rfl, rfl, rfl, trivial⟩ ?_
                  conv => whnf
                  intro bv
                  conv => whnf
                  refine OAnd.mk ⟨rfl, rfl, rfl, rfl, rfl, rfl, trivial⟩ ?_
                  conv => whnf
                  refine OOK.appendRowB (Val.mk yk yi yt yl yA yc yks yB yd) 4 Val.len rfl rfl rfl rfl (.inl ⟨_, rfl⟩) rfl (size := 5) (bytes := 80) rfl rfl rfl (by decide) rfl rfl hOV (Src.own (i := 8) (q := 0) rfl rfl (fun j v hj => by rw [Nat.zero_add]; exact hj)) (Val.one _) (by rw [List.length_map]; omega) ?_
                  intro sV' vA' vc' hOV'
                  conv => whnf
                  refine OAnd.mk ⟨rfl, rfl, rfl, rfl, rfl, rfl, trivial⟩ ?_
                  conv => whnf
                  rw [ek, ev]
                  rw [← ek2] at hOK'
                  rw [← ev2] at hOV'
                  refine OAnd.mk ⟨rfl, rfl, rfl, rfl, rfl, rfl, trivial⟩ ?_
                  conv => whnf
                  refine OAnd.mk ⟨rfl, rfl, rfl, rfl, rfl, rfl, trivial⟩ ?_
                  conv => whnf
                  exact ⟨⟨i + 1, sK', kA', kc', sV', vA', vc'⟩, [0, 1, 2, 7, 9], Sub.of (by decide) rfl ⟨rfl, rfl, rfl, rfl, int_eq (i64_in (by omega) (by omega)), trivial⟩, ⟨hlt, hOK', hOV'⟩, by show l'.length - (i + 1) < l'.length - i; omega⟩
                · skip
                  conv => whnf
                  intro bv
                  conv => whnf
                  refine OAnd.mk ⟨rfl, rfl, rfl, rfl, rfl, rfl, trivial⟩ ?_
                  conv => whnf
                  refine OOK.appendRowB ka 3 encK_len rfl rfl rfl rfl (.inl ⟨_, rfl⟩) rfl (size := 1) (bytes := 16) rfl rfl rfl (by decide) rfl rfl hOK (Src.own (i := 6) (q := 0) rfl rfl (fun j v hj => by rw [Nat.zero_add]; exact hj)) (encK_one _) (by rw [List.length_map]; omega) ?_
                  intro sK' kA' kc' hOK'
                  conv => whnf
                  refine OAnd.mk ⟨rfl, rfl, rfl, rfl, rfl, rfl, trivial⟩ ?_
                  conv => whnf
                  refine OOK.appendRowB (Val.mk yk yi yt yl yA yc yks yB yd) 4 Val.len rfl rfl rfl rfl (.inl ⟨_, rfl⟩) rfl (size := 5) (bytes := 80) rfl rfl rfl (by decide) rfl rfl hOV (Src.own (i := 7) (q := 0) rfl rfl (fun j v hj => by rw [Nat.zero_add]; exact hj)) (Val.one _) (by rw [List.length_map]; omega) ?_
                  intro sV' vA' vc' hOV'
                  conv => whnf
                  refine OAnd.mk ⟨rfl, rfl, rfl, rfl, rfl, rfl, trivial⟩ ?_
                  conv => whnf
                  rw [ek, ev]
                  rw [← ek2] at hOK'
                  rw [← ev2] at hOV'
                  refine OAnd.mk ⟨rfl, rfl, rfl, rfl, rfl, rfl, trivial⟩ ?_
                  conv => whnf
                  refine OAnd.mk ⟨rfl, rfl, rfl, rfl, rfl, rfl, trivial⟩ ?_
                  conv => whnf
                  exact ⟨⟨i + 1, sK', kA', kc', sV', vA', vc'⟩, [0, 1, 2, 8, 9], Sub.of (by decide) rfl ⟨rfl, rfl, rfl, rfl, int_eq (i64_in (by omega) (by omega)), trivial⟩, ⟨hlt, hOK', hOV'⟩, by show l'.length - (i + 1) < l'.length - i; omega⟩
              · skip
                conv => whnf
                intro bv
                conv => whnf
                refine OAnd.mk ⟨rfl, rfl, rfl, rfl, rfl, rfl, trivial⟩ ?_
                conv => whnf
                intro bk
                conv => whnf
                refine OAnd.mk ⟨rfl, rfl, rfl, rfl, rfl, rfl, trivial⟩ ?_
                conv => whnf
                refine OOK.appendRowB ka 3 encK_len rfl rfl rfl rfl (.inl ⟨_, rfl⟩) rfl (size := 1) (bytes := 16) rfl rfl rfl (by decide) rfl rfl hOK (Src.own (i := 7) (q := 0) rfl rfl (fun j v hj => by rw [Nat.zero_add]; exact hj)) (encK_one _) (by rw [List.length_map]; omega) ?_
                intro sK' kA' kc' hOK'
                conv => whnf
                refine OAnd.mk ⟨rfl, rfl, rfl, rfl, rfl, rfl, trivial⟩ ?_
                conv => whnf
                refine OOK.appendRowB (Val.mk yk yi yt yl yA yc yks yB yd) 4 Val.len rfl rfl rfl rfl (.inl ⟨_, rfl⟩) rfl (size := 5) (bytes := 80) rfl rfl rfl (by decide) rfl rfl hOV (Src.own (i := 6) (q := 0) rfl rfl (fun j v hj => by rw [Nat.zero_add]; exact hj)) (Val.one _) (by rw [List.length_map]; omega) ?_
                intro sV' vA' vc' hOV'
                conv => whnf
                refine OAnd.mk ⟨rfl, rfl, rfl, rfl, rfl, rfl, trivial⟩ ?_
                conv => whnf
                rw [ek, ev]
                rw [← ek2] at hOK'
                rw [← ev2] at hOV'
                refine OAnd.mk ⟨rfl, rfl, rfl, rfl, rfl, rfl, trivial⟩ ?_
                conv => whnf
                refine OAnd.mk ⟨rfl, rfl, rfl, rfl, rfl, rfl, trivial⟩ ?_
                conv => whnf
                exact ⟨⟨i + 1, sK', kA', kc', sV', vA', vc'⟩, [0, 1, 2, 8, 9], Sub.of (by decide) rfl ⟨rfl, rfl, rfl, rfl, int_eq (i64_in (by omega) (by omega)), trivial⟩, ⟨hlt, hOK', hOV'⟩, by show l'.length - (i + 1) < l'.length - i; omega⟩
            · skip
              refine OAnd.mk ?_ ?_
              · conv => whnf
                intro bk
                conv => whnf
                refine OAnd.mk ⟨rfl, rfl, rfl, rfl, rfl, rfl, trivial⟩ ?_
                conv => whnf
                refine OAnd.mk ?_ ?_
                · conv => whnf
                  conv => whnf
                  refine OAnd.mk ⟨rfl, rfl, rfl, rfl, rfl, rfl, trivial⟩ ?_
                  conv => whnf
                  refine OAnd.mk ?_ ?_
                  · conv => whnf
                    refine OOK.appendRowB ka 3 encK_len rfl rfl rfl rfl (.inl ⟨_, rfl⟩) rfl (size := 1) (bytes := 16) rfl rfl rfl (by decide) rfl rfl hOK (Src.own (i := 6) (q := 0) rfl rfl (fun j v hj => by rw [Nat.zero_add]; exact hj)) (encK_one _) (by rw [List.length_map]; omega) ?_
                    intro sK' kA' kc' hOK'
                    conv => whnf
                    refine OAnd.mk ⟨rfl, rfl, rfl, rfl, rfl, rfl, trivial⟩ ?_
                    conv => whnf
                    intro bv
                    conv => whnf
                    refine OAnd.mk ⟨rfl, rfl, rfl, rfl, rfl, rfl, trivial⟩ ?_
                    conv => whnf
                    refine OOK.appendRowB (Val.mk yk yi yt yl yA yc yks yB yd) 4 Val.len rfl rfl rfl rfl (.inl ⟨_, rfl⟩) rfl (size := 5) (bytes := 80) rfl rfl rfl (by decide) rfl rfl hOV (Src.own (i := 8) (q := 0) rfl rfl (fun j v hj => by rw [Nat.zero_add]; exact hj)) (Val.one _) (by rw [List.length_map]; omega) ?_
                    intro sV' vA' vc' hOV'
                    conv => whnf
                    refine OAnd.mk ⟨rfl, rfl, rfl, rfl, rfl, rfl, trivial⟩ ?_
                    conv => whnf
                    rw [ek, ev]
                    rw [← ek2] at hOK'
                    rw [← ev2] at hOV'
                    refine OAnd.mk ⟨rfl, rfl, rfl, rfl, rfl, rfl, trivial⟩ ?_
                    conv => whnf
                    refine OAnd.mk ⟨rfl, rfl, rfl, rfl, rfl, rfl, trivial⟩ ?_
                    conv => whnf
                    exact ⟨⟨i + 1, sK', kA', kc', sV', vA', vc'⟩, [0, 1, 2, 7, 9], Sub.of (by decide) rfl ⟨rfl, rfl, rfl, rfl, int_eq (i64_in (by omega) (by omega)), trivial⟩, ⟨hlt, hOK', hOV'⟩, by show l'.length - (i + 1) < l'.length - i; omega⟩
                  · skip
                    conv => whnf
                    intro bv
                    conv => whnf
                    refine OAnd.mk ⟨rfl, rfl, rfl, rfl, rfl, rfl, trivial⟩ ?_
                    conv => whnf
                    refine OOK.appendRowB ka 3 encK_len rfl rfl rfl rfl (.inl ⟨_, rfl⟩) rfl (size := 1) (bytes := 16) rfl rfl rfl (by decide) rfl rfl hOK (Src.own (i := 6) (q := 0) rfl rfl (fun j v hj => by rw [Nat.zero_add]; exact hj)) (encK_one _) (by rw [List.length_map]; omega) ?_
                    intro sK' kA' kc' hOK'
                    conv => whnf
                    refine OAnd.mk ⟨rfl, rfl, rfl, rfl, rfl, rfl, trivial⟩ ?_
                    conv => whnf
                    refine OOK.appendRowB (Val.mk yk yi yt yl yA yc yks yB yd) 4 Val.len rfl rfl rfl rfl (.inl ⟨_, rfl⟩) rfl (size := 5) (bytes := 80) rfl rfl rfl (by decide) rfl rfl hOV (Src.own (i := 7) (q := 0) rfl rfl (fun j v hj => by rw [Nat.zero_add]; exact hj)) (Val.one _) (by rw [List.length_map]; omega) ?_
                    intro sV' vA' vc' hOV'
                    conv => whnf
                    refine OAnd.mk ⟨rfl, rfl, rfl, rfl, rfl, rfl, trivial⟩ ?_
                    conv => whnf
                    rw [ek, ev]
                    rw [← ek2] at hOK'
                    rw [← ev2] at hOV'
                    refine OAnd.mk ⟨rfl, rfl, rfl, rfl, rfl, rfl, trivial⟩ ?_
                    conv => whnf
                    refine OAnd.mk ⟨rfl, rfl, rfl, rfl, rfl, rfl, trivial⟩ ?_
                    conv => whnf
                    exact ⟨⟨i + 1, sK', kA', kc', sV', vA', vc'⟩, [0, 1, 2, 8, 9], Sub.of (by decide) rfl ⟨rfl, rfl, rfl, rfl, int_eq (i64_in (by omega) (by omega)), trivial⟩, ⟨hlt, hOK', hOV'⟩, by show l'.length - (i + 1) < l'.length - i; omega⟩
                · skip
                  conv => whnf
                  intro bv
                  conv => whnf
                  refine OAnd.mk ⟨rfl, rfl, rfl, rfl, rfl, rfl, trivial⟩ ?_
                  conv => whnf
                  conv => whnf
                  refine OAnd.mk ⟨rfl, rfl, rfl, rfl, rfl, rfl, trivial⟩ ?_
                  conv => whnf
                  refine OOK.appendRowB ka 3 encK_len rfl rfl rfl rfl (.inl ⟨_, rfl⟩) rfl (size := 1) (bytes := 16) rfl rfl rfl (by decide) rfl rfl hOK (Src.own (i := 6) (q := 0) rfl rfl (fun j v hj => by rw [Nat.zero_add]; exact hj)) (encK_one _) (by rw [List.length_map]; omega) ?_
                  intro sK' kA' kc' hOK'
                  conv => whnf
                  refine OAnd.mk ⟨rfl, rfl, rfl, rfl, rfl, rfl, trivial⟩ ?_
                  conv => whnf
                  refine OOK.appendRowB (Val.mk yk yi yt yl yA yc yks yB yd) 4 Val.len rfl rfl rfl rfl (.inl ⟨_, rfl⟩) rfl (size := 5) (bytes := 80) rfl rfl rfl (by decide) rfl rfl hOV (Src.own (i := 7) (q := 0) rfl rfl (fun j v hj => by rw [Nat.zero_add]; exact hj)) (Val.one _) (by rw [List.length_map]; omega) ?_
                  intro sV' vA' vc' hOV'
                  conv => whnf
                  refine OAnd.mk ⟨rfl, rfl, rfl, rfl, rfl, rfl, trivial⟩ ?_
                  conv => whnf
                  rw [ek, ev]
                  rw [← ek2] at hOK'
                  rw [← ev2] at hOV'
                  refine OAnd.mk ⟨rfl, rfl, rfl, rfl, rfl, rfl, trivial⟩ ?_
                  conv => whnf
                  refine OAnd.mk ⟨rfl, rfl, rfl, rfl, rfl, rfl, trivial⟩ ?_
                  conv => whnf
                  exact ⟨⟨i + 1, sK', kA', kc', sV', vA', vc'⟩, [0, 1, 2, 8, 9], Sub.of (by decide) rfl ⟨rfl, rfl, rfl, rfl, int_eq (i64_in (by omega) (by omega)), trivial⟩, ⟨hlt, hOK', hOV'⟩, by show l'.length - (i + 1) < l'.length - i; omega⟩
              · skip
                conv => whnf
                intro bv
                conv => whnf
                refine OAnd.mk ⟨rfl, rfl, rfl, rfl, rfl, rfl, trivial⟩ ?_
                conv => whnf
                refine OAnd.mk ?_ ?_
                · conv => whnf
                  conv => whnf
                  refine OAnd.mk ⟨rfl, rfl, rfl, rfl, rfl, rfl, trivial⟩ ?_
                  conv => whnf
                  intro bk
                  conv => whnf
                  refine OAnd.mk ⟨rfl, rfl, rfl, rfl, rfl, rfl, trivial⟩ ?_
                  conv => whnf
                  refine OOK.appendRowB ka 3 encK_len rfl rfl rfl rfl (.inl ⟨_, rfl⟩) rfl (size := 1) (bytes := 16) rfl rfl rfl (by decide) rfl rfl hOK (Src.own (i := 7) (q := 0) rfl rfl (fun j v hj => by rw [Nat.zero_add]; exact hj)) (encK_one _) (by rw [List.length_map]; omega) ?_
                  intro sK' kA' kc' hOK'
                  conv => whnf
                  refine OAnd.mk ⟨rfl, rfl, rfl, rfl, rfl, rfl, trivial⟩ ?_
                  conv => whnf
                  refine OOK.appendRowB (Val.mk yk yi yt yl yA yc yks yB yd) 4 Val.len rfl rfl rfl rfl (.inl ⟨_, rfl⟩) rfl (size := 5) (bytes := 80) rfl rfl rfl (by decide) rfl rfl hOV (Src.own (i := 6) (q := 0) rfl rfl (fun j v hj => by rw [Nat.zero_add]; exact hj)) (Val.one _) (by rw [List.length_map]; omega) ?_
                  intro sV' vA' vc' hOV'
                  conv => whnf
                  refine OAnd.mk ⟨rfl, rfl, rfl, rfl, rfl, rfl, trivial⟩ ?_
                  conv => whnf
                  rw [ek, ev]
                  rw [← ek2] at hOK'
                  rw [← ev2] at hOV'
                  refine OAnd.mk ⟨rfl, rfl, rfl, rfl, rfl, rfl, trivial⟩ ?_
                  conv => whnf
                  refine OAnd.mk ⟨rfl, rfl, rfl, rfl, rfl, rfl, trivial⟩ ?_
                  conv => whnf
                  exact ⟨⟨i + 1, sK', kA', kc', sV', vA', vc'⟩, [0, 1, 2, 8, 9], Sub.of (by decide) rfl ⟨rfl, rfl, rfl, rfl, int_eq (i64_in (by omega) (by omega)), trivial⟩, ⟨hlt, hOK', hOV'⟩, by show l'.length - (i + 1) < l'.length - i; omega⟩
                · skip
                  conv => whnf
                  intro bk
                  conv => whnf
                  refine OAnd.mk ⟨rfl, rfl, rfl, rfl, rfl, rfl, trivial⟩ ?_
                  conv => whnf
                  conv => whnf
                  refine OAnd.mk ⟨rfl, rfl, rfl, rfl, rfl, rfl, trivial⟩ ?_
                  conv => whnf
                  refine OOK.appendRowB ka 3 encK_len rfl rfl rfl rfl (.inl ⟨_, rfl⟩) rfl (size := 1) (bytes := 16) rfl rfl rfl (by decide) rfl rfl hOK (Src.own (i := 7) (q := 0) rfl rfl (fun j v hj => by rw [Nat.zero_add]; exact hj)) (encK_one _) (by rw [List.length_map]; omega) ?_
                  intro sK' kA' kc' hOK'
                  conv => whnf
                  refine OAnd.mk ⟨rfl, rfl, rfl, rfl, rfl, rfl, trivial⟩ ?_
                  conv => whnf
                  refine OOK.appendRowB (Val.mk yk yi yt yl yA yc yks yB yd) 4 Val.len rfl rfl rfl rfl (.inl ⟨_, rfl⟩) rfl (size := 5) (bytes := 80) rfl rfl rfl (by decide) rfl rfl hOV (Src.own (i := 6) (q := 0) rfl rfl (fun j v hj => by rw [Nat.zero_add]; exact hj)) (Val.one _) (by rw [List.length_map]; omega) ?_
                  intro sV' vA' vc' hOV'
                  conv => whnf
                  refine OAnd.mk ⟨rfl, rfl, rfl, rfl, rfl, rfl, trivial⟩ ?_
                  conv => whnf
                  rw [ek, ev]
                  rw [← ek2] at hOK'
                  rw [← ev2] at hOV'
                  refine OAnd.mk ⟨rfl, rfl, rfl, rfl, rfl, rfl, trivial⟩ ?_
                  conv => whnf
                  refine OAnd.mk ⟨rfl, rfl, rfl, rfl, rfl, rfl, trivial⟩ ?_
                  conv => whnf
                  exact ⟨⟨i + 1, sK', kA', kc', sV', vA', vc'⟩, [0, 1, 2, 8, 9], Sub.of (by decide) rfl ⟨rfl, rfl, rfl, rfl, int_eq (i64_in (by omega) (by omega)), trivial⟩, ⟨hlt, hOK', hOV'⟩, by show l'.length - (i + 1) < l'.length - i; omega⟩
          · skip
            conv => whnf
            intro bv
            conv => whnf
            refine OAnd.mk ⟨rfl, rfl, rfl, rfl, rfl, rfl, trivial⟩ ?_
            conv => whnf
            refine OAnd.mk ?_ ?_
            · conv => whnf
              conv => whnf
              refine OAnd.mk ⟨rfl, rfl, rfl, rfl, rfl, rfl, trivial⟩ ?_
              conv => whnf
              refine OAnd.mk ?_ ?_
              · conv => whnf
                intro bk
                conv => whnf
                refine OAnd.mk ⟨rfl, rfl, rfl, rfl, rfl, rfl, trivial⟩ ?_
                conv => whnf
                refine OAnd.mk ?_ ?_
                · conv => whnf
                  refine OOK.appendRowB ka 3 encK_len rfl rfl rfl rfl (.inl ⟨_, rfl⟩) rfl (size := 1) (bytes := 16) rfl rfl rfl (by decide) rfl rfl hOK (Src.own (i := 7) (q := 0) rfl rfl (fun j v hj => by rw [Nat.zero_add]; exact hj)) (encK_one _) (by rw [List.length_map]; omega) ?_
                  intro sK' kA' kc' hOK'
                  conv => whnf
                  refine OAnd.mk ⟨rfl, rfl, rfl, rfl, rfl, rfl, trivial⟩ ?_
                  conv => whnf
                  conv => whnf
                  refine OAnd.mk ⟨rfl, rfl, rfl, rfl, rfl, rfl, trivial⟩ ?_
                  conv => whnf
                  refine OOK.appendRowB (Val.mk yk yi yt yl yA yc yks yB yd) 4 Val.len rfl rfl rfl rfl (.inl ⟨_, rfl⟩) rfl (size := 5) (bytes := 80) rfl rfl rfl (by decide) rfl rfl hOV (Src.own (i := 6) (q := 0) rfl rfl (fun j v hj => by rw [Nat.zero_add]; exact hj)) (Val.one _) (by rw [List.length_map]; omega) ?_
                  intro sV' vA' vc' hOV'
                  conv => whnf
                  refine OAnd.mk ⟨rfl, rfl, rfl, rfl, rfl, rfl, trivial⟩ ?_
                  conv => whnf
                  rw [ek, ev]
                  rw [← ek2] at hOK'
                  rw [← ev2] at hOV'
                  refine OAnd.mk ⟨rfl, rfl, rfl, rfl, rfl, rfl, trivial⟩ ?_
                  conv => whnf
                  refine OAnd.mk ⟨rfl, rfl, rfl, rfl, rfl, rfl, trivial⟩ ?_
                  conv => whnf
                  exact ⟨⟨i + 1, sK', kA', kc', sV', vA', vc'⟩, [0, 1, 2, 8, 9], Sub.of (by decide) rfl ⟨rfl, rfl, rfl, rfl, int_eq (i64_in (by omega) (by omega)), trivial⟩, ⟨hlt, hOK', hOV'⟩, by show l'.length - (i + 1) < l'.length - i; omega⟩
                · skip
                  conv => whnf
                  conv => whnf
                  refine OAnd.mk ⟨rfl, rfl, rfl, rfl, rfl, rfl, trivial⟩ ?_
                  conv => whnf
                  refine OOK.appendRowB ka 3 encK_len rfl rfl rfl rfl (.inl ⟨_, rfl⟩) rfl (size := 1) (bytes := 16) rfl rfl rfl (by decide) rfl rfl hOK (Src.own (i := 7) (q := 0) rfl rfl (fun j v hj => by rw [Nat.zero_add]; exact hj)) (encK_one _) (by rw [List.length_map]; omega) ?_
                  intro sK' kA' kc' hOK'
                  conv => whnf
                  refine OAnd.mk ⟨rfl, rfl, rfl, rfl, rfl, rfl, trivial⟩ ?_
                  conv => whnf
                  refine OOK.appendRowB (Val.mk yk yi yt yl yA yc yks yB yd) 4 Val.len rfl rfl rfl rfl (.inl ⟨_, rfl⟩) rfl (size := 5) (bytes := 80) rfl rfl rfl (by decide) rfl rfl hOV (Src.own (i := 6) (q := 0) rfl rfl (fun j v hj => by rw [Nat.zero_add]; exact hj)) (Val.one _) (by rw [List.length_map]; omega) ?_
                  intro sV' vA' vc' hOV'
                  conv => whnf
                  refine OAnd.mk ⟨rfl, rfl, rfl, rfl, rfl, rfl, trivial⟩ ?_
                  conv => whnf
                  rw [ek, ev]
                  rw [← ek2] at hOK'
                  rw [← ev2] at hOV'
                  refine OAnd.mk ⟨rfl, rfl, rfl, rfl, rfl, rfl, trivial⟩ ?_
                  conv => whnf
                  refine OAnd.mk ⟨rfl, rfl, rfl, rfl, rfl, rfl, trivial⟩ ?_
                  conv => whnf
                  exact ⟨⟨i + 1, sK', kA', kc', sV', vA', vc'⟩, [0, 1, 2, 8, 9], Sub.of (by decide) rfl ⟨rfl, rfl, rfl, rfl, int_eq (i64_in (by omega) (by omega)), trivial⟩, ⟨hlt, hOK', hOV'⟩, by show l'.length - (i + 1) < l'.length - i; omega⟩
              · skip
                conv => whnf
                conv => whnf
                refine OAnd.mk ⟨rfl, rfl, rfl, rfl, rfl, rfl, trivial⟩ ?_
                conv => whnf
                intro bk
                conv => whnf
                refine OAnd.mk ⟨rfl, rfl, rfl, rfl, rfl, rfl, trivial⟩ ?_
                conv => whnf
                refine OOK.appendRowB ka 3 encK_len rfl rfl rfl rfl (.inl ⟨_, rfl⟩) rfl (size := 1) (bytes := 16) rfl rfl rfl (by decide) rfl rfl hOK (Src.own (i := 7) (q := 0) rfl rfl (fun j v hj => by rw [Nat.zero_add]; exact hj)) (encK_one _) (by rw [List.length_map]; omega) ?_
                intro sK' kA' kc' hOK'
                conv => whnf
                refine OAnd.mk ⟨rfl, rfl, rfl, rfl, rfl, rfl, trivial⟩ ?_
                conv => whnf
                refine OOK.appendRowB (Val.mk yk yi yt yl yA yc yks yB yd) 4 Val.len rfl rfl rfl rfl (.inl ⟨_, rfl⟩) rfl (size := 5) (bytes := 80) rfl rfl rfl (by decide) rfl rfl hOV (Src.own (i := 6) (q := 0) rfl rfl (fun j v hj => by rw [Nat.zero_add]; exact hj)) (Val.one _) (by rw [List.length_map]; omega) ?_
                intro sV' vA' vc' hOV'
                conv => whnf
                refine OAnd.mk ⟨rfl, rfl, rfl, rfl, rfl, rfl, trivial⟩ ?_
                conv => whnf
                rw [ek, ev]
                rw [← ek2] at hOK'
                rw [← ev2] at hOV'
                refine OAnd.mk ⟨rfl, rfl, rfl, rfl, rfl, rfl, trivial⟩ ?_
                conv => whnf
                refine OAnd.mk ⟨rfl, rfl, rfl, rfl, rfl, rfl, trivial⟩ ?_
                conv => whnf
                exact ⟨⟨i + 1, sK', kA', kc', sV', vA', vc'⟩, [0, 1, 2, 8, 9], Sub.of (by decide) rfl ⟨rfl, rfl, rfl, rfl, int_eq (i64_in (by omega) (by omega)), trivial⟩, ⟨hlt, hOK', hOV'⟩, by show l'.length - (i + 1) < l'.length - i; omega⟩
            · skip
              refine OAnd.mk ?_ ?_
              · conv => whnf
                intro bk
                conv => whnf
                refine OAnd.mk ⟨rfl, rfl, rfl, rfl, rfl, rfl, trivial⟩ ?_
                conv => whnf
                refine OAnd.mk ?_ ?_
                · conv => whnf
                  conv => whnf
                  refine OAnd.mk ⟨rfl, rfl, rfl, rfl, rfl, rfl, trivial⟩ ?_
                  conv => whnf
                  refine OAnd.mk ?_ ?_
                  · conv => whnf
                    refine OOK.appendRowB ka 3 encK_len rfl rfl rfl rfl (.inl ⟨_, rfl⟩) rfl (size := 1) (bytes := 16) rfl rfl rfl (by decide) rfl rfl hOK (Src.own (i := 7) (q := 0) rfl rfl (fun j v hj => by rw [Nat.zero_add]; exact hj)) (encK_one _) (by rw [List.length_map]; omega) ?_
                    intro sK' kA' kc' hOK'
                    conv => whnf
                    refine OAnd.mk ⟨rfl, rfl, rfl, rfl, rfl, rfl, trivial⟩ ?_
                    conv => whnf
                    conv => whnf
                    refine OAnd.mk ⟨rfl, rfl, rfl, rfl, rfl, rfl, trivial⟩ ?_
                    conv => whnf
                    refine OOK.appendRowB (Val.mk yk yi yt yl yA yc yks yB yd) 4 Val.len rfl rfl rfl rfl (.inl ⟨_, rfl⟩) rfl (size := 5) (bytes := 80) rfl rfl rfl (by decide) rfl rfl hOV (Src.own (i := 6) (q := 0) rfl rfl (fun j v hj => by rw [Nat.zero_add]; exact hj)) (Val.one _) (by rw [List.length_map]; omega) ?_
                    intro sV' vA' vc' hOV'
                    conv => whnf
                    refine OAnd.mk ⟨rfl, rfl, rfl, rfl, rfl, rfl, trivial⟩ ?_
                    conv => whnf
                    rw [ek, ev]
                    rw [← ek2] at hOK'
                    rw [← ev2] at hOV'
                    refine OAnd.mk ⟨rfl, rfl, rfl, rfl, rfl, rfl, trivial⟩ ?_
                    conv => whnf
                    refine OAnd.mk ⟨rfl, rfl, rfl, rfl, rfl, rfl, trivial⟩ ?_
                    conv => whnf
                    exact ⟨⟨i + 1, sK', kA', kc', sV', vA', vc'⟩, [0, 1, 2, 8, 9], Sub.of (by decide) rfl ⟨rfl, rfl, rfl, rfl, int_eq (i64_in (by omega) (by omega)), trivial⟩, ⟨hlt, hOK', hOV'⟩, by show l'.length - (i + 1) < l'.length - i; omega⟩
                  · skip
                    conv => whnf
                    conv => whnf
                    refine OAnd.mk ⟨rfl, rfl, rfl, rfl, rfl, rfl, trivial⟩ ?_
                    conv => whnf
                    refine OOK.appendRowB ka 3 encK_len rfl rfl rfl rfl (.inl ⟨_, rfl⟩) rfl (size := 1) (bytes := 16) rfl rfl rfl (by decide) rfl rfl hOK (Src.own (i := 7) (q := 0) rfl rfl (fun j v hj => by rw [Nat.zero_add]; exact hj)) (encK_one _) (by rw [List.length_map]; omega) ?_
                    intro sK' kA' kc' hOK'
                    conv => whnf
                    refine OAnd.mk ⟨rfl, rfl, rfl, rfl, rfl, rfl, trivial⟩ ?_
                    conv => whnf
                    refine OOK.appendRowB (Val.mk yk yi yt yl yA yc yks yB yd) 4 Val.len rfl rfl rfl rfl (.inl ⟨_, rfl⟩) rfl (size := 5) (bytes := 80) rfl rfl rfl (by decide) rfl rfl hOV (Src.own (i := 6) (q := 0) rfl rfl (fun j v hj => by rw [Nat.zero_add]; exact hj)) (Val.one _) (by rw [List.length_map]; omega) ?_
                    intro sV' vA' vc' hOV'
                    conv => whnf
                    refine OAnd.mk ⟨rfl, rfl, rfl, rfl, rfl, rfl, trivial⟩ ?_
                    conv => whnf
                    rw [ek, ev]
                    rw [← ek2] at hOK'
                    rw [← ev2] at hOV'
                    refine OAnd.mk ⟨rfl, rfl, rfl, rfl, rfl, rfl, trivial⟩ ?_
                    conv => whnf
                    refine OAnd.mk ⟨rfl, rfl, rfl, rfl, rfl, rfl, trivial⟩ ?_
                    conv => whnf
                    exact ⟨⟨i + 1, sK', kA', kc', sV', vA', vc'⟩, [0, 1, 2, 8, 9], Sub.of (by decide) rfl ⟨rfl, rfl, rfl, rfl, int_eq (i64_in (by omega) (by omega)), trivial⟩, ⟨hlt, hOK', hOV'⟩, by show l'.length - (i + 1) < l'.length - i; omega⟩
                · skip
                  conv => whnf
                  conv => whnf
                  refine OAnd.mk ⟨rfl, rfl, rfl, rfl, rfl, rfl, trivial⟩ ?_
                  conv => whnf
                  conv => whnf
                  refine OAnd.mk ⟨rfl, rfl, rfl, rfl, rfl, rfl, trivial⟩ ?_
                  conv => whnf
                  refine OOK.appendRowB ka 3 encK_len rfl rfl rfl rfl (.inl ⟨_, rfl⟩) rfl (size := 1) (bytes := 16) rfl rfl rfl (by decide) rfl rfl hOK (Src.own (i := 7) (q := 0) rfl rfl (fun j v hj => by rw [Nat.zero_add]; exact hj)) (encK_one _) (by rw [List.length_map]; omega) ?_
                  intro sK' kA' kc' hOK'
                  conv => whnf
                  refine OAnd.mk ⟨rfl, rfl, rfl, rfl, rfl, rfl, trivial⟩ ?_
                  conv => whnf
                  refine OOK.appendRowB (Val.mk yk yi yt yl yA yc yks yB yd) 4 Val.len rfl rfl rfl rfl (.inl ⟨_, rfl⟩) rfl (size := 5) (bytes := 80) rfl rfl rfl (by decide) rfl rfl hOV (Src.own (i := 6) (q := 0) rfl rfl (fun j v hj => by rw [Nat.zero_add]; exact hj)) (Val.one _) (by rw [List.length_map]; omega) ?_
                  intro sV' vA' vc' hOV'
                  conv => whnf
                  refine OAnd.mk ⟨rfl, rfl, rfl, rfl, rfl, rfl, trivial⟩ ?_
                  conv => whnf
                  rw [ek, ev]
                  rw [← ek2] at hOK'
                  rw [← ev2] at hOV'
                  refine OAnd.mk ⟨rfl, rfl, rfl, rfl, rfl, rfl, trivial⟩ ?_
                  conv => whnf
                  refine OAnd.mk ⟨rfl, rfl, rfl, rfl, rfl, rfl, trivial⟩ ?_
                  conv => whnf
                  exact ⟨⟨i + 1, sK', kA', kc', sV', vA', vc'⟩, [0, 1, 2, 8, 9], Sub.of (by decide) rfl ⟨rfl, rfl, rfl, rfl, int_eq (i64_in (by omega) (by omega)), trivial⟩, ⟨hlt, hOK', hOV'⟩, by show l'.length - (i + 1) < l'.length - i; omega⟩
              · skip
                conv => whnf
                conv => whnf
                refine OAnd.mk ⟨rfl, rfl, rfl, rfl, rfl, rfl, trivial⟩ ?_
                conv => whnf
                refine OAnd.mk ?_ ?_
                · conv => whnf
                  conv => whnf
                  refine OAnd.mk ⟨rfl, rfl, rfl, rfl, rfl, rfl, trivial⟩ ?_
                  conv => whnf
                  intro bk
                  conv => whnf
                  refine OAnd.mk ⟨rfl, rfl, rfl, rfl, rfl, rfl, trivial⟩ ?_
                  conv => whnf
                  refine OOK.appendRowB ka 3 encK_len rfl rfl rfl rfl (.inl ⟨_, rfl⟩) rfl (size := 1) (bytes := 16) rfl rfl rfl (by decide) rfl rfl hOK (Src.own (i := 7) (q := 0) rfl rfl (fun j v hj => by rw [Nat.zero_add]; exact hj)) (encK_one _) (by rw [List.length_map]; omega) ?_
                  intro sK' kA' kc' hOK'
                  conv => whnf
                  refine OAnd.mk ⟨rfl, rfl, rfl, rfl, rfl, rfl, trivial⟩ ?_
                  conv => whnf
                  refine OOK.appendRowB (Val.mk yk yi yt yl yA yc yks yB yd) 4 Val.len rfl rfl rfl rfl (.inl ⟨_, rfl⟩) rfl (size := 5) (bytes := 80) rfl rfl rfl (by decide) rfl rfl hOV (Src.own (i := 6) (q := 0) rfl rfl (fun j v hj => by rw [Nat.zero_add]; exact hj)) (Val.one _) (by rw [List.length_map]; omega) ?_
                  intro sV' vA' vc' hOV'
                  conv => whnf
                  refine OAnd.mk ⟨rfl, rfl, rfl, rfl, rfl, rfl, trivial⟩ ?_
                  conv => whnf
                  rw [ek, ev]
                  rw [← ek2] at hOK'
                  rw [← ev2] at hOV'
                  refine OAnd.mk ⟨rfl, rfl, rfl, rfl, rfl, rfl, trivial⟩ ?_
                  conv => whnf
                  refine OAnd.mk ⟨rfl, rfl, rfl, rfl, rfl, rfl, trivial⟩ ?_
                  conv => whnf
                  exact ⟨⟨i + 1, sK', kA', kc', sV', vA', vc'⟩, [0, 1, 2, 8, 9], Sub.of (by decide) rfl ⟨rfl, rfl, rfl, rfl, int_eq (i64_in (by omega) (by omega)), trivial⟩, ⟨hlt, hOK', hOV'⟩, by show l'.length - (i + 1) < l'.length - i; omega⟩
                · skip
                  conv => whnf
                  intro bk
                  conv => whnf
                  refine OAnd.mk ⟨rfl, rfl, rfl, rfl, rfl, rfl, trivial⟩ ?_
                  conv => whnf
                  conv => whnf
                  refine OAnd.mk ⟨rfl, rfl, rfl, rfl, rfl, rfl, trivial⟩ ?_
                  conv => whnf
                  refine OOK.appendRowB ka 3 encK_len rfl rfl rfl rfl (.inl ⟨_, rfl⟩) rfl (size := 1) (bytes := 16) rfl rfl rfl (by decide) rfl rfl hOK (Src.own (i := 7) (q := 0) rfl rfl (fun j v hj => by rw [Nat.zero_add]; exact hj)) (encK_one _) (by rw [List.length_map]; omega) ?_
                  intro sK' kA' kc' hOK'
                  conv => whnf
                  refine OAnd.mk ⟨rfl, rfl, rfl, rfl, rfl, rfl, trivial⟩ ?_
                  conv => whnf
                  refine OOK.appendRowB (Val.mk yk yi yt yl yA yc yks yB yd) 4 Val.len rfl rfl rfl rfl (.inl ⟨_, rfl⟩) rfl (size := 5) (bytes := 80) rfl rfl rfl (by decide) rfl rfl hOV (Src.own (i := 6) (q := 0) rfl rfl (fun j v hj => by rw [Nat.zero_add]; exact hj)) (Val.one _) (by rw [List.length_map]; omega) ?_
                  intro sV' vA' vc' hOV'
                  conv => whnf
                  refine OAnd.mk ⟨rfl, rfl, rfl, rfl, rfl, rfl, trivial⟩ ?_
                  conv => whnf
                  rw [ek, ev]
                  rw [← ek2] at hOK'
                  rw [← ev2] at hOV'
                  refine OAnd.mk ⟨rfl, rfl, rfl, rfl, rfl, rfl, trivial⟩ ?_
                  conv => whnf
                  refine OAnd.mk ⟨rfl, rfl, rfl, rfl, rfl, rfl, trivial⟩ ?_
                  conv => whnf
                  exact ⟨⟨i + 1, sK', kA', kc', sV', vA', vc'⟩, [0, 1, 2, 8, 9], Sub.of (by decide) rfl ⟨rfl, rfl, rfl, rfl, int_eq (i64_in (by omega) (by omega)), trivial⟩, ⟨hlt, hOK', hOV'⟩, by show l'.length - (i + 1) < l'.length - i; omega⟩
    · have hid : i = l'.length := by omega
      rw [hid, List.take_length] at hOK hOV ⊢
      have h1 := hOK.le
      have h2 := hOV.le
      rw [List.length_map] at h1 h2
      refine COK.rowF 3 hOK rfl ?_
      intro g10 hg10 hRK
      refine COK.rowF 4 hOV rfl ?_
      intro g11 hg11 hRV
      refine vcC_ok _ _ _ _ _ ?_
      conv => whnf
      refine ⟨fun h1 => absurd (of_decide_eq_true h1) (by omega), fun _ => ?_⟩
      conv => whnf
      have hOk : ∀ z ∈ l'.map Prod.snd, z.Ok g11 := fun z hz => by
        obtain ⟨u, hu, rfl⟩ := List.mem_map.1 hz
        exact (hyo1 u hu).mono (hg8.trans (hg9.trans (hg10.trans hg11)))
      exact .mk ⟨_, [0], _, rfl, by decide, rfl, ⟨rfl, trivial⟩, Val.mk 5 0 [] (l'.map Prod.snd) vA vc (l'.map Prod.fst) kA kc, _, hW, by rw [Val.t_mk, List.map_map] <;> rfl, rfl, .mk hRV (hRK.mono hg11) (by rw [List.length_map]; exact h2) (by rw [List.length_map]; exact h1) ⟨by rw [List.length_map]; omega, by rw [List.length_map]; omega⟩ hOk, rfl⟩
end Go.Proofs.YthkfnmmbjoadbaaGreatDoor
/- WholeTexts: the parser's value, walked. -/
set_option linter.unusedVariables false
set_option linter.unusedSimpArgs false
set_option maxRecDepth 100000
namespace Go.Proofs.YthkfnmmbjoadbaaGreatDoor
open Go Go.SX

theorem Val.tS (k i : Int) (s : List UInt8) : (Val.mk k i s [] none 0 [] none 0).t = .mk k i s [] [] := by rw [Val.t_mk]; rfl
def kFst : List UInt8 := [110, 116, 102, 45, 34, 91, 123]
theorem idx_first (c : UInt8) : decide (idxB kFst c < 0) = !(c == 110 || c == 116 || c == 102 || c == 45 || c == 34 || c == 91 || c == 123) := by
  have h : ∀ n : Fin 256, decide (idxB kFst (UInt8.ofNat n.val) < 0) = !(UInt8.ofNat n.val == 110 || UInt8.ofNat n.val == 116 || UInt8.ofNat n.val == 102 || UInt8.ofNat n.val == 45 || UInt8.ofNat n.val == 34 || UInt8.ofNat n.val == 91 || UInt8.ofNat n.val == 123) := by decide +kernel
  have := h ⟨c.toNat, c.toNat_lt⟩
  simpa using this
theorem int_first {s : List UInt8} {p : Nat} {c : UInt8} (hc : peekP s p = .ok c) (h : intP s p ≠ .stuck) : c = 45 ∨ isDigit c = true := by
  by_cases h45 : c = 45
  · exact .inl h45
  · cases hd : isDigit c with
    | true => exact .inr rfl
    | false =>
      exfalso
      apply h
      unfold intP
      rw [hc, Out.ok_bind, if_neg h45, Out.ok_bind, hc, Out.ok_bind, if_pos hd]
theorem f_valP (b : Nat) (s : List UInt8) (hs : s.length ≤ 100000) : ∀ (f : Nat) (dep : Int) (g0 : GH), f ≤ 16 → dep = 17 - (f : Int) → ValC b s f dep g0
  | 0, dep, g0, hf, hdep => fun g p cnt hg hp hc hne => absurd (by rw [valP]) hne
  | f + 1, dep, g0, hf, hdep => by
    intro g p cnt hg hp hc hne
    have hV : ValC b s f (dep + 1) g := f_valP b s hs f (dep + 1) g (by omega) (by omega)
    obtain ⟨W, hW⟩ : ∃ W, W = valP (f + 1) s p cnt := ⟨_, rfl⟩
    rw [← hW] at hne ⊢
    rw [valP] at hW
    refine TriE.vc [.own 0 0, .val (.int .i64 dep)] Tryz.func34 rfl Tryz.ntmps34 rfl rfl ?_
    conv => whnf
    intro b4
    conv => whnf
    refine OOK.call [0] rfl rfl rfl (by kernel_rfl) rfl (f_blanks g b s p cnt hs) (by decide) rfl ?_
    rintro v_ g1 m_ hg1 ⟨rfl, rfl⟩
    conv => whnf
    obtain ⟨q, hq⟩ : ∃ q, q = blanksP s p := ⟨_, rfl⟩
    rw [← hq] at hW ⊢
    refine OOK.callE [0] rfl rfl rfl (by kernel_rfl) rfl (f_peek g1 b s q cnt hs) (by decide) rfl (fun ch h => ⟨by rw [hW, h.1]; rfl, h.2⟩) ?_
    rintro v_ g2 m_ hg2 ⟨c, hc0, rfl, rfl⟩
    conv => whnf
    obtain ⟨hcq, hl⟩ := peek_ok hc0
    rw [hc0, Out.ok_bind] at hW
    have h1000 : ¬ 1000 ≤ cnt := fun h => by rw [if_pos h] at hW; exact hne hW
    rw [if_neg h1000] at hW
    refine OOK.call [] rfl rfl rfl (by kernel_rfl) rfl (f_index g2 kFst c) (by decide) rfl ?_
    rintro v_ g3 m_ hg3 ⟨rfl, rfl⟩
    conv => whnf
    rw [idx_first]
    have e1 : IntKind.i64.wrap ((cnt : Int) + 1) = ((cnt + 1 : Nat) : Int) := i64_in (by omega) (by omega)
    have hV3 : ValC b s f (dep + 1) g3 := fun g' p' cnt' hg' => hV g' p' cnt' (hg1.trans (hg2.trans (hg3.trans hg')))
    by_cases h110 : c = 110
    · subst h110
      rw [if_pos rfl] at hW
      refine ⟨(by intro q; cases q), fun _ => ?_⟩
      conv => whnf
      refine ⟨fun h1 => absurd (of_decide_eq_true h1) (by omega), fun _ => ?_⟩
      conv => whnf
      refine ⟨fun h1 => absurd (of_decide_eq_true h1) (by omega), fun _ => ?_⟩
      conv => whnf
      rw [e1]
      refine ⟨fun _ => ?_, (by intro q; cases q)⟩
      conv => whnf
      refine OOK.callE [0] rfl rfl rfl (by kernel_rfl) rfl (f_wordP g3 b s kNull q (cnt + 1) hs (by omega) (by decide) (fun h => hne (by rw [hW, h]; rfl))) (by decide) rfl (fun ch h => ⟨by rw [hW, h.1]; rfl, h.2⟩) ?_
      rintro v_ g4 m_ hg4 ⟨q', hq', rfl, rfl⟩
      conv => whnf
      rw [hq', Out.ok_bind] at hW
      refine OOK.call [] rfl rfl rfl (by kernel_rfl) rfl (f_vnull g4) (by decide) rfl ?_
      rintro v_ g5 m_ hg5 ⟨rfl, rfl⟩
      conv => whnf
      exact .mk ⟨_, [0], _, rfl, by decide, rfl, ⟨rfl, trivial⟩, Val.mk 0 0 [] [] none 0 [] none 0, _, hW, (Val.tS _ _ _).symm, rfl, Val.okS _ _ _ _, rfl⟩
    rw [if_neg h110] at hW
    by_cases h116 : c = 116
    · subst h116
      rw [if_pos rfl] at hW
      refine ⟨(by intro q; cases q), fun _ => ?_⟩
      conv => whnf
      refine ⟨fun h1 => absurd (of_decide_eq_true h1) (by omega), fun _ => ?_⟩
      conv => whnf
      refine ⟨fun h1 => absurd (of_decide_eq_true h1) (by omega), fun _ => ?_⟩
      conv => whnf
      rw [e1]
      refine ⟨(by intro q; cases q), fun _ => ?_⟩
      conv => whnf
      refine ⟨fun _ => ?_, (by intro q; cases q)⟩
      conv => whnf
      refine OOK.callE [0] rfl rfl rfl (by kernel_rfl) rfl (f_wordP g3 b s kTrue q (cnt + 1) hs (by omega) (by decide) (fun h => hne (by rw [hW, h]; rfl))) (by decide) rfl (fun ch h => ⟨by rw [hW, h.1]; rfl, h.2⟩) ?_
      rintro v_ g4 m_ hg4 ⟨q', hq', rfl, rfl⟩
      conv => whnf
      rw [hq', Out.ok_bind] at hW
      refine OOK.call [] rfl rfl rfl (by kernel_rfl) rfl (f_vbool g4 true) (by decide) rfl ?_
      rintro v_ g5 m_ hg5 ⟨rfl, rfl⟩
      conv => whnf
      exact .mk ⟨_, [0], _, rfl, by decide, rfl, ⟨rfl, trivial⟩, Val.mk 1 1 [] [] none 0 [] none 0, _, hW, (Val.tS _ _ _).symm, rfl, Val.okS _ _ _ _, rfl⟩
    rw [if_neg h116] at hW
    by_cases h102 : c = 102
    · subst h102
      rw [if_pos rfl] at hW
      refine ⟨(by intro q; cases q), fun _ => ?_⟩
      conv => whnf
      refine ⟨fun h1 => absurd (of_decide_eq_true h1) (by omega), fun _ => ?_⟩
      conv => whnf
      refine ⟨fun h1 => absurd (of_decide_eq_true h1) (by omega), fun _ => ?_⟩
      conv => whnf
      rw [e1]
      refine ⟨(by intro q; cases q), fun _ => ?_⟩
      conv => whnf
      refine ⟨(by intro q; cases q), fun _ => ?_⟩
      conv => whnf
      refine ⟨fun _ => ?_, (by intro q; cases q)⟩
      conv => whnf
      refine OOK.callE [0] rfl rfl rfl (by kernel_rfl) rfl (f_wordP g3 b s kFalse q (cnt + 1) hs (by omega) (by decide) (fun h => hne (by rw [hW, h]; rfl))) (by decide) rfl (fun ch h => ⟨by rw [hW, h.1]; rfl, h.2⟩) ?_
      rintro v_ g4 m_ hg4 ⟨q', hq', rfl, rfl⟩
      conv => whnf
      rw [hq', Out.ok_bind] at hW
      refine OOK.call [] rfl rfl rfl (by kernel_rfl) rfl (f_vbool g4 false) (by decide) rfl ?_
      rintro v_ g5 m_ hg5 ⟨rfl, rfl⟩
      conv => whnf
      exact .mk ⟨_, [0], _, rfl, by decide, rfl, ⟨rfl, trivial⟩, Val.mk 1 0 [] [] none 0 [] none 0, _, hW, (Val.tS _ _ _).symm, rfl, Val.okS _ _ _ _, rfl⟩
    rw [if_neg h102] at hW
    by_cases h34 : c = 34
    · subst h34
      rw [if_pos rfl] at hW
      refine ⟨(by intro q; cases q), fun _ => ?_⟩
      conv => whnf
      refine ⟨fun h1 => absurd (of_decide_eq_true h1) (by omega), fun _ => ?_⟩
      conv => whnf
      refine ⟨fun h1 => absurd (of_decide_eq_true h1) (by omega), fun _ => ?_⟩
      conv => whnf
      rw [e1]
      refine ⟨(by intro q; cases q), fun _ => ?_⟩
      conv => whnf
      refine ⟨(by intro q; cases q), fun _ => ?_⟩
      conv => whnf
      refine ⟨(by intro q; cases q), fun _ => ?_⟩
      conv => whnf
      refine ⟨fun _ => ?_, (by intro q; cases q)⟩
      conv => whnf
      refine OOK.callE [0] rfl rfl rfl (by kernel_rfl) rfl (f_lit g3 b s q (cnt + 1) hs hl (fun h => hne (by rw [hW, h]; rfl))) (by decide) rfl (fun ch h => ⟨by rw [hW, h.1]; rfl, h.2⟩) ?_
      rintro v_ g4 m_ hg4 ⟨k, hk, rfl, rfl⟩
      conv => whnf
      rw [hk, Out.ok_bind] at hW
      refine OOK.call [] rfl rfl rfl (by kernel_rfl) rfl (f_vtxt g4 k.1) (by decide) rfl ?_
      rintro v_ g5 m_ hg5 ⟨rfl, rfl⟩
      conv => whnf
      exact .mk ⟨_, [0], _, rfl, by decide, rfl, ⟨rfl, trivial⟩, Val.mk 3 0 k.1 [] none 0 [] none 0, _, hW, (Val.tS _ _ _).symm, rfl, Val.okS _ _ _ _, rfl⟩
    rw [if_neg h34] at hW
    by_cases h91 : c = 91
    · subst h91
      rw [if_pos rfl] at hW
      refine ⟨(by intro q; cases q), fun _ => ?_⟩
      conv => whnf
      refine ⟨fun h1 => absurd (of_decide_eq_true h1) (by omega), fun _ => ?_⟩
      conv => whnf
      refine ⟨fun h1 => absurd (of_decide_eq_true h1) (by omega), fun _ => ?_⟩
      conv => whnf
      rw [e1]
      refine ⟨(by intro q; cases q), fun _ => ?_⟩
      conv => whnf
      refine ⟨(by intro q; cases q), fun _ => ?_⟩
      conv => whnf
      refine ⟨(by intro q; cases q), fun _ => ?_⟩
      conv => whnf
      refine ⟨(by intro q; cases q), fun _ => ?_⟩
      conv => whnf
      refine ⟨fun _ => ?_, (by intro q; cases q)⟩
      conv => whnf
      refine OOK.callE [0] rfl rfl rfl (by kernel_rfl) rfl (f_listP g3 b s f dep hV3 q (cnt + 1) hs hl (by omega) ⟨by omega, by omega⟩ W hW hne) (by decide) rfl (fun ch h => h) ?_
      rintro v_ g4 m_ hg4 ⟨⟨yk, yi, yt, yl, yA, yc, yks, yB, yd⟩, x, hx, hxt, rfl, hyo, rfl⟩
      conv => whnf
      exact .mk ⟨_, [0], _, rfl, by decide, rfl, ⟨rfl, trivial⟩, Val.mk yk yi yt yl yA yc yks yB yd, x, hx, hxt, rfl, hyo, rfl⟩
    rw [if_neg h91] at hW
    by_cases h123 : c = 123
    · subst h123
      rw [if_pos rfl] at hW
      refine ⟨(by intro q; cases q), fun _ => ?_⟩
      conv => whnf
      refine ⟨fun h1 => absurd (of_decide_eq_true h1) (by omega), fun _ => ?_⟩
      conv => whnf
      refine ⟨fun h1 => absurd (of_decide_eq_true h1) (by omega), fun _ => ?_⟩
      conv => whnf
      rw [e1]
      refine ⟨(by intro q; cases q), fun _ => ?_⟩
      conv => whnf
      refine ⟨(by intro q; cases q), fun _ => ?_⟩
      conv => whnf
      refine ⟨(by intro q; cases q), fun _ => ?_⟩
      conv => whnf
      refine ⟨(by intro q; cases q), fun _ => ?_⟩
      conv => whnf
      refine ⟨(by intro q; cases q), fun _ => ?_⟩
      conv => whnf
      refine ⟨fun _ => ?_, (by intro q; cases q)⟩
      conv => whnf
      refine OOK.callE [0] rfl rfl rfl (by kernel_rfl) rfl (f_tableP g3 b s f dep hV3 q (cnt + 1) hs hl (by omega) ⟨by omega, by omega⟩ W hW hne) (by decide) rfl (fun ch h => h) ?_
      rintro v_ g4 m_ hg4 ⟨⟨yk, yi, yt, yl, yA, yc, yks, yB, yd⟩, x, hx, hxt, rfl, hyo, rfl⟩
      conv => whnf
      exact .mk ⟨_, [0], _, rfl, by decide, rfl, ⟨rfl, trivial⟩, Val.mk yk yi yt yl yA yc yks yB yd, x, hx, hxt, rfl, hyo, rfl⟩
    rw [if_neg h123] at hW
    have hni : intP s q ≠ .stuck := fun h => hne (by rw [hW, h]; rfl)
    by_cases h45 : c = 45
    · have hfst : (!(c == 110 || c == 116 || c == 102 || c == 45 || c == 34 || c == 91 || c == 123)) = false := by rw [h45]; rfl
      rw [hfst]
      refine ⟨(by intro q; cases q), fun _ => ?_⟩
      conv => whnf
      refine ⟨fun h1 => absurd (of_decide_eq_true h1) (by omega), fun _ => ?_⟩
      conv => whnf
      refine ⟨fun h1 => absurd (of_decide_eq_true h1) (by omega), fun _ => ?_⟩
      conv => whnf
      rw [e1]
      refine ⟨fun h1 => absurd (u8k (k := 110) (eq_of_beq h1)) h110, fun _ => ?_⟩
      conv => whnf
      refine ⟨fun h1 => absurd (u8k (k := 116) (eq_of_beq h1)) h116, fun _ => ?_⟩
      conv => whnf
      refine ⟨fun h1 => absurd (u8k (k := 102) (eq_of_beq h1)) h102, fun _ => ?_⟩
      conv => whnf
      refine ⟨fun h1 => absurd (u8k (k := 34) (eq_of_beq h1)) h34, fun _ => ?_⟩
      conv => whnf
      refine ⟨fun h1 => absurd (u8k (k := 91) (eq_of_beq h1)) h91, fun _ => ?_⟩
      conv => whnf
      refine ⟨fun h1 => absurd (u8k (k := 123) (eq_of_beq h1)) h123, fun _ => ?_⟩
      conv => whnf
      refine OOK.callE [0] rfl rfl rfl (by kernel_rfl) rfl (f_integer g3 b s q (cnt + 1) hs hl hni) (by decide) rfl (fun ch h => ⟨by rw [hW, h.1]; rfl, h.2⟩) ?_
      rintro v_ g6 m_ hg6 ⟨n, hn, rfl, rfl⟩
      conv => whnf
      rw [hn, Out.ok_bind] at hW
      exact .mk ⟨_, [0], _, rfl, by decide, rfl, ⟨rfl, trivial⟩, Val.mk 2 n.1 [] [] none 0 [] none 0, _, hW, (Val.tS _ _ _).symm, rfl, Val.okS _ _ _ _, rfl⟩
    · have hdg : isDigit c = true := (int_first hc0 hni).resolve_left h45
      have hfst : (!(c == 110 || c == 116 || c == 102 || c == 45 || c == 34 || c == 91 || c == 123)) = true := by simp [h110, h116, h102, h34, h91, h123, h45]
      rw [hfst]
      refine ⟨fun _ => ?_, (by intro q; cases q)⟩
      conv => whnf
      refine OOK.call [] rfl rfl rfl (by kernel_rfl) rfl (f_digit g3 c) (by decide) rfl ?_
      rintro v_ g5 m_ hg5 ⟨rfl, rfl⟩
      conv => whnf
      rw [hdg]
      refine ⟨(by intro q; cases q), fun _ => ?_⟩
      conv => whnf
      refine ⟨fun h1 => absurd (of_decide_eq_true h1) (by omega), fun _ => ?_⟩
      conv => whnf
      refine ⟨fun h1 => absurd (of_decide_eq_true h1) (by omega), fun _ => ?_⟩
      conv => whnf
      rw [e1]
      refine ⟨fun h1 => absurd (u8k (k := 110) (eq_of_beq h1)) h110, fun _ => ?_⟩
      conv => whnf
      refine ⟨fun h1 => absurd (u8k (k := 116) (eq_of_beq h1)) h116, fun _ => ?_⟩
      conv => whnf
      refine ⟨fun h1 => absurd (u8k (k := 102) (eq_of_beq h1)) h102, fun _ => ?_⟩
      conv => whnf
      refine ⟨fun h1 => absurd (u8k (k := 34) (eq_of_beq h1)) h34, fun _ => ?_⟩
      conv => whnf
      refine ⟨fun h1 => absurd (u8k (k := 91) (eq_of_beq h1)) h91, fun _ => ?_⟩
      conv => whnf
      refine ⟨fun h1 => absurd (u8k (k := 123) (eq_of_beq h1)) h123, fun _ => ?_⟩
      conv => whnf
      refine OOK.callE [0] rfl rfl rfl (by kernel_rfl) rfl (f_integer g5 b s q (cnt + 1) hs hl hni) (by decide) rfl (fun ch h => ⟨by rw [hW, h.1]; rfl, h.2⟩) ?_
      rintro v_ g6 m_ hg6 ⟨n, hn, rfl, rfl⟩
      conv => whnf
      rw [hn, Out.ok_bind] at hW
      exact .mk ⟨_, [0], _, rfl, by decide, rfl, ⟨rfl, trivial⟩, Val.mk 2 n.1 [] [] none 0 [] none 0, _, hW, (Val.tS _ _ _).symm, rfl, Val.okS _ _ _ _, rfl⟩
end Go.Proofs.YthkfnmmbjoadbaaGreatDoor
