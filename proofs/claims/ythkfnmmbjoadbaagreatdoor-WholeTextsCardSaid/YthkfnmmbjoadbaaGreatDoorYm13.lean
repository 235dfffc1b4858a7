/- WholeTexts: the walk of the whole. -/
import Derived.Test.YthkfnmmbjoadbaaGreatDoorYm12
import Derived.Test.YthkfnmmbjoadbaaGreatDoorCards
import Derived.Test.YthkfnmmbjoadbaaGreatDoorTie
import Derived.Test.YthkfnmmbjoadbaaGreatDoorPxEnd
import Derived.Lib.LaidTab
set_option linter.unusedVariables false
set_option linter.unusedSimpArgs false
set_option maxRecDepth 100000
namespace Go.Proofs.YthkfnmmbjoadbaaGreatDoor
open Go Go.SX

theorem _root_.Go.SX.COK.orRow {P : Program} {n : Cfg} {c : Code} {e : Env} {m : Mem} {g : GH} {K : KK} {α : Type} {el size : Nat} {enc : α → List Value} {l : List α} {s : Slot} {A : Option Addr} {cc : Nat} (i : Nat) (C : GH → Prop) (hi : m[i]? = some s)
    (h0 : C g ∨ (OwnAt el size enc l s A cc ∧ ∀ g', g.le g' → Row g' enc A l → C g')) (h : ∀ g' s', g.le g' → C g' → COK P n c e (m.set i s') g' K) : COK P n c e m g K := by
  rcases h0 with h0 | ⟨hO, h1⟩
  · have h2 := h g s (GH.le.refl _) h0
    have : m.set i s = m := by
      apply List.ext_getElem?
      intro k
      by_cases hk : i = k
      · subst hk
        rw [List.getElem?_set_self (List.getElem?_eq_some_iff.1 hi).1, hi]
      · rw [List.getElem?_set_ne hk]
    rw [this] at h2
    exact h2
  · exact COK.rowF i hO hi fun g' hg hr => h g' _ hg (h1 g' hg hr)
structure Mp where
  h : Hd
  w : Val
  b : Nat
/-- The text between blanks parses. -/
theorem lo_parse {t : T} {a x b : List UInt8} (ha : Blank a) (hb : Blank b) (h : Lo 4 t x) (hd : 4 ≤ 4) (hw : WF 4 t) : ∃ q cnt, valP 16 (a ++ x ++ b) 0 0 = .ok (t, q, cnt) ∧ blanksP (a ++ x ++ b) q = (a ++ x ++ b).length := by
  have hs := siz_len t 4 hw
  have hs2 : szB 4 ≤ 1000 := by decide
  have hd0 : (a ++ x ++ b).drop 0 = a ++ (x ++ b) := by simp
  have h1 := lo_val (S := a ++ x ++ b) 16 4 (by omega) t x 0 0 a b h ha hd0 (fun c hc => by
    cases b with
    | nil => cases hc
    | cons e b =>
      have := blank_head (b := [e]) (r := []) (e := 44) (fun c' h' => hb c' (by rw [List.mem_singleton.1 h']; exact List.mem_cons_self)) (by decide) e rfl
      simp at hc
      rw [← hc]; exact this) (by omega)
  refine ⟨_, _, h1, ?_⟩
  have h2 : (a ++ x ++ b).drop (0 + a.length + x.length) = b ++ [] := by rw [List.append_nil]; exact at_drop (at_drop hd0)
  rw [at_blanks h2 hb (fun c hc => by cases hc)]
  simp only [List.length_append]
  omega
/-- The text that is cut short. -/
theorem lo_cut {t : T} {x : List UInt8} (h : Lo 4 t x) (hw : WF 4 t) (hk : 3 ≤ t.kind) {k : Nat} (hkl : k < x.length) : valP 16 (x.take k) 0 0 = .short := by
  have hs := siz_len t 4 hw
  have hs2 : szB 4 ≤ 1000 := by decide
  obtain ⟨c, y, hx, hb, _, _, h3⟩ := lo_head h
  have hd0 : x.drop 0 = [] ++ (x ++ []) := by simp
  have h1 := lo_val (S := x) 16 4 (by omega) t x 0 0 [] [] h (fun c hc => by cases hc) hd0 (fun c hc => by cases hc) (by omega)
  have hbl := at_blanks hd0 (fun c hc => by cases hc) (fun c' hc' => by rw [hx] at hc'; simp at hc'; subst hc'; exact hb)
  have hpk : peekP x (blanksP x 0) = .ok c := by rw [hbl]; exact at_peek (r := y) (by simp [hx])
  have h2 := (cut_val (S := x) (k := k) (by omega) 16 0 0 (by omega)).2 c hpk (h3 hk)
  exact (h2 _ h1).2 (by show k < 0 + [].length + x.length; simpa using hkl)
structure Mv where
  h : Hd
  v : Val
  o : Val
  l : List Val
  s : Slot
  A : Option Addr
  c : Nat
def Mv.ok (y : Mv) (g : GH) : Prop := y.h.ok g ∧ y.v.Ok g ∧ WF 4 y.v.t ∧ WF 4 y.o.t ∧ (y.o.Ok g ∨ (OwnAt 28 5 Val.cells y.l y.s y.A y.c ∧ ∀ g', g.le g' → Row g' Val.cells y.A y.l → y.o.Ok g'))
theorem wf_set {d : Nat} {t y : T} {kk : Nat} {k i : Int} {s : List UInt8} {l : List T} {ks : List (List UInt8)} (h : WF (d + 3) t) (ht : t = .mk k i s l ks) (hy : WF 1 y) : WF (d + 3) (.mk k i s (l.set kk y) ks) := by
  subst ht
  have key : ∀ d', d + 3 = d' + 1 → (∀ x ∈ l, WF d' x) → ∀ x ∈ l.set kk y, WF d' x := fun d' hd hl x hx => by
    rcases List.mem_or_eq_of_mem_set hx with hx | rfl
    · exact hl x hx
    · exact hy.mono (by omega)
  rcases h.inv with ⟨rfl, rfl, rfl, rfl, rfl⟩ | ⟨rfl, hi, rfl, rfl, rfl⟩ | ⟨rfl, h1, h2, rfl, rfl, rfl⟩ | ⟨rfl, rfl, h6, rfl, rfl⟩ | ⟨d', hd, rfl, rfl, rfl, rfl, hl, hw⟩ | ⟨d', hd, rfl, rfl, rfl, hk, hl, hs, h6, hw⟩
  · exact h
  · exact h
  · exact h
  · exact h
  · obtain rfl : d' = d + 2 := by omega
    exact .list (d + 2) _ (by rw [List.length_set]; exact hl) (key _ rfl hw)
  · obtain rfl : d' = d + 2 := by omega
    exact .map (d + 2) _ _ (by rw [List.length_set]; exact hk) (by rw [List.length_set]; exact hl) hs h6 (key _ rfl hw)
set_option maxHeartbeats 4000000 in
theorem f_whole (g : GH) (A : Option Addr) (n c : Nat) (hb : BytesG g A n) (ht : TabG g) : Tri Tryz.prog 3 [.slice A n c] g [] fun v g' m' => v = .bool true ∧ m' = [] := by
  refine Tri.cok [.val (.slice A n c)] Tryz.func3 rfl Tryz.ntmps3 rfl rfl ?_
  refine COK.seq (vcC_ok _ _ _ _ _ ?_)
  conv => whnf
  refine COK.seq (vcC_ok _ _ _ _ _ ?_)
  conv => whnf
  refine ⟨fun q => ?_, fun q => ?_⟩
  · conv => whnf
    exact .mk ⟨_, [], _, rfl, by decide, rfl, trivial, rfl, rfl⟩
  have hn : n ≤ 4096 := by have := of_decide_eq_false q; omega
  conv => whnf
  refine COK.seq (vcC_ok _ _ _ _ _ ?_)
  conv => whnf
  refine OOK.call [] rfl rfl rfl (by kernel_rfl) rfl (hand_new g A n c hn hb) (by decide) rfl ?_
  rintro v_ g1 m_ hg1 ⟨hB, s0, rfl, rfl⟩
  conv => whnf
  obtain ⟨h1, hh1⟩ : ∃ h1, h1 = (⟨A, n, c, 0, s0, 260, .slice none 0 0, 0, false⟩ : Hd) := ⟨_, rfl⟩
  rw [← hh1]
  have hok1 : h1.ok g1 := by rw [hh1]; exact ⟨Int.le_refl _, by show (0 : Int) ≤ n; omega, hn, hb.mono hg1⟩
  refine COK.seq (vcC_ok _ _ _ _ _ ?_)
  conv => whnf
  refine OOK.call [0] rfl rfl rfl (by kernel_rfl) rfl (f_value hB 4 g1 h1 hok1 (by omega)) (by decide) rfl ?_
  rintro v_ g2 m_ hg2 ⟨v, h2, rfl, hv2, hvw, hok2, rfl⟩
  conv => whnf
  obtain ⟨vk, vi, vt, vl, vA, vc, vs, vB, vd⟩ := v
  intro b4
  conv => whnf
  refine COK.seq (vcC_ok _ _ _ _ _ ?_)
  conv => whnf
  refine OOK.call [0] rfl rfl rfl (by kernel_rfl) rfl (f_value hB 4 g2 h2 hok2 (by omega)) (by decide) rfl ?_
  rintro v_ g3 m_ hg3 ⟨o, h3, rfl, ho3, how, hok3, rfl⟩
  conv => whnf
  obtain ⟨ok, oi, ot, ol, oA, oc, os, oB, od⟩ := o
  intro b5
  conv => whnf
  refine COK.dummy 0 ?_
  refine COK.seq (COK.cut (α := Mv) (fun y => [(3, .own 0 0), (4, .own 1 0), (5, .own 2 0)]) (fun y => [y.h.slot hB, ⟨b4, .cells y.v.cells 28 (0, 0)⟩, ⟨b5, .cells y.o.cells 28 (0, 0)⟩, y.s]) (fun y g' => y.ok g') ?_ ?_)
  · refine COK.seq (vcC_ok _ _ _ _ _ ?_)
    conv => whnf
    refine OOK.call [0] rfl rfl rfl (by kernel_rfl) rfl (hand_n g3 hB h3 2 hok3 (by omega) (by omega)) (by decide) rfl ?_
    rintro v_ g4 m_ hg4 ⟨r, h4, rfl, r0, r1, hnh4, hh4, rfl⟩
    conv => whnf
    refine ⟨fun q1 => ?_, fun q1 => ?_⟩
    · conv => whnf
      refine vcC_ok _ _ _ _ _ ?_
      conv => whnf
      refine ⟨fun q2 => ?_, fun q2 => ?_⟩
      · have hpos : 0 < vl.length := by have := of_decide_eq_true q2; omega
        obtain ⟨vRow, vKeys, vic, vkc, vb, vit⟩ := hv2
        conv => whnf
        refine OOK.call [] rfl rfl rfl (by kernel_rfl) rfl (f_cloneV g4 vA vc vl (vRow.mono (hg3.trans hg4)) (by omega)) (by decide) rfl ?_
        rintro v_ g5 m_ hg5 ⟨s5, A5, c5, hO, rfl, rfl⟩
        obtain ⟨b8, rest, rfl, rfl, hrl, hlc⟩ := hO.live hpos
        conv => whnf
        refine COK.draw [2] (by kernel_rfl) (by kernel_rfl) ?_
        conv => whnf
        have hh5 := hh4.mono hg5
        refine OOK.call [0] rfl rfl rfl (by kernel_rfl) rfl (hand_n g5 hB h4 (vl.length : Int) hh5 (by omega) (by omega)) (by decide) rfl ?_
        rintro v_ g6 m_ hg6 ⟨u, h6, rfl, u0, u1, hnh6, hh6, rfl⟩
        conv => whnf
        refine ⟨⟨rfl, rfl, rfl, rfl, rfl, trivial⟩, ?_⟩
        conv => whnf
        refine OOK.call [0] rfl rfl rfl (by kernel_rfl) rfl (f_value hB 1 g6 h6 hh6 (by omega)) (by decide) rfl ?_
        rintro v_ g7 m_ hg7 ⟨y, h7, rfl, hy7, hyw, hh7, rfl⟩
        conv => whnf
        refine ⟨⟨rfl, rfl, rfl, rfl, rfl, trivial⟩, ?_⟩
        conv => whnf
        refine ⟨⟨by omega, by omega⟩, ?_⟩
        conv => whnf
        obtain ⟨kk, rfl⟩ : ∃ kk : Nat, u = kk := Int.eq_ofNat_of_zero_le u0
        have hkk : kk < vl.length := by omega
        have hye : y.val.cells.toList = y.cells := by cases y; rfl
        refine OOK.storeElt Val.len 4 (k := kk) (j := 0) (x := vl[kk]) y rfl rfl rfl rfl rfl (by rw [hye, Val.len]; rfl) (by cases y; rfl) (List.getElem?_eq_getElem hkk) (by rw [hye, List.take_zero, List.nil_append, List.drop_eq_nil_of_le (by rw [Val.len, Val.len]; omega), List.append_nil]) (by rw [hye, Val.len]; omega) ?_
        conv => whnf
        refine ⟨⟨rfl, rfl, rfl, rfl, rfl, trivial⟩, ?_⟩
        conv => whnf
        have hsl : (vl.set kk y).length = vl.length := List.length_set
        have hO2 : OwnAt 28 5 Val.cells (vl.set kk y) ⟨b8, .cells ((vl.set kk y).flatMap Val.cells ++ rest) 28 (0, 0)⟩ (some ⟨b8, 0, none⟩) c5 := .own b8 c5 rest (by rw [List.length_append, flat_len Val.len, hsl]; rw [List.length_append, flat_len Val.len] at hrl; exact hrl) (by rw [hsl]; exact hlc)
        have hg37 := hg3.trans (hg4.trans (hg5.trans (hg6.trans hg7)))
        have hvo : (Val.mk vk vi vt vl vA vc vs vB vd).Ok g7 := .mk (vRow.mono hg37) (vKeys.mono hg37) vic vkc vb (fun x hx => (vit x hx).mono hg37)
        refine ⟨⟨h7, Val.mk vk vi vt vl vA vc vs vB vd, Val.mk vk vi vt (vl.set kk y) (some ⟨b8, 0, none⟩) c5 vs vB vd, vl.set kk y, _, _, _⟩, [0, 1, 2, 4], Sub.of (by decide) ?_ ⟨rfl, rfl, rfl, trivial⟩, hh7, hvo, hvw, ?_, .inr ⟨hO2, fun g' hg' hr => .mk hr (vKeys.mono (hg37.trans hg')) (by rw [hsl]; exact hlc) vkc (by rw [hsl]; exact vb) fun x hx => ?_⟩⟩
        · show _ = some ([_, _, Slot.mk b5 ( .cells [.int .i64 vk, .int .i64 vi, .string (str vt), .slice (some ⟨b8, 0, none⟩) (vl.set kk y).length c5, .slice vB vs.length vd] 28 (0, 0)), _] : Mem)
          rw [hsl]
          rfl
        · rw [Val.t_mk, List.map_set]
          exact wf_set hvw (by rw [Val.t_mk]) hyw
        · rcases List.mem_or_eq_of_mem_set hx with hx | rfl
          · exact (vit x hx).mono (hg37.trans hg')
          · exact hy7.mono hg'
      · conv => whnf
        exact ⟨⟨h4, Val.mk vk vi vt vl vA vc vs vB vd, Val.mk ok oi ot ol oA oc os oB od, [], ⟨0, .dead⟩, none, 0⟩, [0, 1, 2, 3], Sub.of (by decide) rfl ⟨rfl, rfl, rfl, trivial⟩, hh4, hv2.mono (hg3.trans hg4), hvw, how, .inl (ho3.mono hg4)⟩
    · conv => whnf
      refine vcC_ok _ _ _ _ _ ?_
      conv => whnf
      exact ⟨⟨h4, Val.mk vk vi vt vl vA vc vs vB vd, Val.mk ok oi ot ol oA oc os oB od, [], ⟨0, .dead⟩, none, 0⟩, [0, 1, 2, 3], Sub.of (by decide) rfl ⟨rfl, rfl, rfl, trivial⟩, hh4, hv2.mono (hg3.trans hg4), hvw, how, .inl (ho3.mono hg4)⟩
  rintro ⟨h4, v, o, l4, s4, A4, c4⟩ g4 hg4 ⟨hok4, hv4, hvw, how, ho4⟩
  simp only at hok4 hv4 hvw ho4 how
  dsimp only
  refine COK.orRow 3 (fun g' => o.Ok g') rfl ho4 ?_
  intro g5 s5 hg5 ho5
  have hg05 := hg1.trans (hg2.trans (hg3.trans (hg4.trans hg5)))
  have hok5 := hok4.mono hg5
  have hv5 := hv4.mono hg5
  have ht5 := ht.mono hg05
  obtain ⟨vk, vi, vt, vl, vA, vc, vs, vB, vd⟩ := v
  obtain ⟨ok, oi, ot, ol, oA, oc, os, oB, od⟩ := o
  refine COK.seq (COK.cut (α := Mp) (fun y => [(3, .own 0 0), (4, .own 1 0), (5, .own 2 0), (6, .own 4 0), (7, .val (.int .i64 0)), (8, .val (.int .i64 0))]) (fun y => [y.h.slot hB, ⟨b4, .cells (Val.mk vk vi vt vl vA vc vs vB vd).cells 28 (0, 0)⟩, ⟨b5, .cells (Val.mk ok oi ot ol oA oc os oB od).cells 28 (0, 0)⟩, s5, ⟨y.b, .cells y.w.cells 28 (0, 0)⟩])
    (fun y g' => y.h.ok g' ∧ y.w.Ok g' ∧ y.w.t = (Val.mk vk vi vt vl vA vc vs vB vd).t) ?_ ?_)
  · refine COK.draw [1] (by kernel_rfl) (by kernel_rfl) ?_
    conv => whnf
    refine OAnd.mk ?_ ?_
    · conv => whnf
      refine OOK.call [0] rfl rfl rfl (by kernel_rfl) rfl (f_blank g5 hB h4 hok5) (by decide) rfl ?_
      rintro v_ g6 m_ hg6 ⟨ba, h6, rfl, hba, hbal, hh6, rfl⟩
      conv => whnf
      refine ⟨⟨rfl, rfl, rfl, rfl, trivial⟩, ?_⟩
      conv => whnf
      refine OAnd.mk ?_ ?_
      · conv => whnf
        refine OOK.call [0] rfl rfl rfl (by kernel_rfl) rfl (f_loose (Val.mk vk vi vt vl vA vc vs vB vd) 4 g6 hB h6 hh6 (hv5.mono hg6) hvw (by omega) (ht5.mono hg6)) (by decide) rfl ?_
        rintro v_ g7 m_ hg7 ⟨x, h7, rfl, hxL, hxl, hh7, rfl⟩
        conv => whnf
        refine ⟨⟨rfl, rfl, rfl, rfl, trivial⟩, ?_⟩
        conv => whnf
        have hxl2 : x.length ≤ 30000 := Nat.le_trans hxl (by decide)
        rw [str_app]
        refine ⟨by rw [str_size, str_size]; omega, ?_⟩
        conv => whnf
        refine OAnd.mk ?_ ?_
        · conv => whnf
          refine OOK.call [0] rfl rfl rfl (by kernel_rfl) rfl (f_blank g7 hB h7 hh7) (by decide) rfl ?_
          rintro v_ g8 m_ hg8 ⟨bd, h8, rfl, hbd, hbdl, hh8, rfl⟩
          conv => whnf
          refine ⟨⟨rfl, rfl, rfl, rfl, trivial⟩, ?_⟩
          conv => whnf
          rw [str_app]
          refine ⟨by rw [str_size, str_size, List.length_append]; omega, ?_⟩
          conv => whnf
          refine OAnd.mk ?_ ?_
          · conv => whnf
            obtain ⟨q1, q2, q3, q4⟩ := lo_parse hba hbd hxL (by omega) hvw
            refine OOK.call [] rfl rfl rfl (by kernel_rfl) rfl (f_parse_ok g8 (ba ++ x ++ bd) (by rw [List.length_append, List.length_append]; omega) _ _ _ q3 q4) (by decide) rfl ?_
            rintro v_ g9 m_ hg9 ⟨rfl, w, hwt, hwo, rfl⟩
            conv => whnf
            refine ⟨⟨rfl, rfl, rfl, rfl, trivial⟩, ?_⟩
            conv => whnf
            intro b6
            conv => whnf
            refine ⟨⟨rfl, rfl, rfl, rfl, trivial⟩, ?_⟩
            conv => whnf
            obtain ⟨wk, wi, wt, wl, wA, wc, ws, wB, wd⟩ := w
            conv => whnf
            refine ⟨⟨rfl, rfl, rfl, rfl, trivial⟩, ?_⟩
            conv => whnf
            exact ⟨⟨h8, Val.mk wk wi wt wl wA wc ws wB wd, b6⟩, [0, 1, 2, 3, 4], Sub.of (by decide) rfl ⟨rfl, rfl, rfl, rfl, rfl, rfl, trivial⟩, hh8.mono hg9, hwo, hwt⟩
          · conv => whnf
            intro b6
            conv => whnf
            refine ⟨⟨rfl, rfl, rfl, rfl, trivial⟩, ?_⟩
            conv => whnf
            obtain ⟨q1, q2, q3, q4⟩ := lo_parse hba hbd hxL (by omega) hvw
            refine OOK.call [] rfl rfl rfl (by kernel_rfl) rfl (f_parse_ok g8 (ba ++ x ++ bd) (by rw [List.length_append, List.length_append]; omega) _ _ _ q3 q4) (by decide) rfl ?_
            rintro v_ g9 m_ hg9 ⟨rfl, w, hwt, hwo, rfl⟩
            conv => whnf
            refine ⟨⟨rfl, rfl, rfl, rfl, trivial⟩, ?_⟩
            conv => whnf
            obtain ⟨wk, wi, wt, wl, wA, wc, ws, wB, wd⟩ := w
            conv => whnf
            refine ⟨⟨rfl, rfl, rfl, rfl, trivial⟩, ?_⟩
            conv => whnf
            exact ⟨⟨h8, Val.mk wk wi wt wl wA wc ws wB wd, b6⟩, [0, 1, 2, 3, 4], Sub.of (by decide) rfl ⟨rfl, rfl, rfl, rfl, rfl, rfl, trivial⟩, hh8.mono hg9, hwo, hwt⟩
        · conv => whnf
          intro b6
          conv => whnf
          refine ⟨⟨rfl, rfl, rfl, rfl, trivial⟩, ?_⟩
          conv => whnf
          refine OOK.call [0] rfl rfl rfl (by kernel_rfl) rfl (f_blank g7 hB h7 hh7) (by decide) rfl ?_
          rintro v_ g8 m_ hg8 ⟨bd, h8, rfl, hbd, hbdl, hh8, rfl⟩
          conv => whnf
          refine ⟨⟨rfl, rfl, rfl, rfl, trivial⟩, ?_⟩
          conv => whnf
          rw [str_app]
          refine ⟨by rw [str_size, str_size, List.length_append]; omega, ?_⟩
          conv => whnf
          obtain ⟨q1, q2, q3, q4⟩ := lo_parse hba hbd hxL (by omega) hvw
          refine OOK.call [] rfl rfl rfl (by kernel_rfl) rfl (f_parse_ok g8 (ba ++ x ++ bd) (by rw [List.length_append, List.length_append]; omega) _ _ _ q3 q4) (by decide) rfl ?_
          rintro v_ g9 m_ hg9 ⟨rfl, w, hwt, hwo, rfl⟩
          conv => whnf
          refine ⟨⟨rfl, rfl, rfl, rfl, trivial⟩, ?_⟩
          conv => whnf
          obtain ⟨wk, wi, wt, wl, wA, wc, ws, wB, wd⟩ := w
          conv => whnf
          refine ⟨⟨rfl, rfl, rfl, rfl, trivial⟩, ?_⟩
          conv => whnf
          exact ⟨⟨h8, Val.mk wk wi wt wl wA wc ws wB wd, b6⟩, [0, 1, 2, 3, 4], Sub.of (by decide) rfl ⟨rfl, rfl, rfl, rfl, rfl, rfl, trivial⟩, hh8.mono hg9, hwo, hwt⟩
      · conv => whnf
        intro b6
        conv => whnf
        refine ⟨⟨rfl, rfl, rfl, rfl, trivial⟩, ?_⟩
        conv => whnf
        refine OOK.call [0] rfl rfl rfl (by kernel_rfl) rfl (f_loose (Val.mk vk vi vt vl vA vc vs vB vd) 4 g6 hB h6 hh6 (hv5.mono hg6) hvw (by omega) (ht5.mono hg6)) (by decide) rfl ?_
        rintro v_ g7 m_ hg7 ⟨x, h7, rfl, hxL, hxl, hh7, rfl⟩
        conv => whnf
        refine ⟨⟨rfl, rfl, rfl, rfl, trivial⟩, ?_⟩
        conv => whnf
        have hxl2 : x.length ≤ 30000 := Nat.le_trans hxl (by decide)
        rw [str_app]
        refine ⟨by rw [str_size, str_size]; omega, ?_⟩
        conv => whnf
        refine OOK.call [0] rfl rfl rfl (by kernel_rfl) rfl (f_blank g7 hB h7 hh7) (by decide) rfl ?_
        rintro v_ g8 m_ hg8 ⟨bd, h8, rfl, hbd, hbdl, hh8, rfl⟩
        conv => whnf
        refine ⟨⟨rfl, rfl, rfl, rfl, trivial⟩, ?_⟩
        conv => whnf
        rw [str_app]
        refine ⟨by rw [str_size, str_size, List.length_append]; omega, ?_⟩
        conv => whnf
        obtain ⟨q1, q2, q3, q4⟩ := lo_parse hba hbd hxL (by omega) hvw
        refine OOK.call [] rfl rfl rfl (by kernel_rfl) rfl (f_parse_ok g8 (ba ++ x ++ bd) (by rw [List.length_append, List.length_append]; omega) _ _ _ q3 q4) (by decide) rfl ?_
        rintro v_ g9 m_ hg9 ⟨rfl, w, hwt, hwo, rfl⟩
        conv => whnf
        refine ⟨⟨rfl, rfl, rfl, rfl, trivial⟩, ?_⟩
        conv => whnf
        obtain ⟨wk, wi, wt, wl, wA, wc, ws, wB, wd⟩ := w
        conv => whnf
        refine ⟨⟨rfl, rfl, rfl, rfl, trivial⟩, ?_⟩
        conv => whnf
        exact ⟨⟨h8, Val.mk wk wi wt wl wA wc ws wB wd, b6⟩, [0, 1, 2, 3, 4], Sub.of (by decide) rfl ⟨rfl, rfl, rfl, rfl, rfl, rfl, trivial⟩, hh8.mono hg9, hwo, hwt⟩
    · conv => whnf
      intro b6
      conv => whnf
      refine ⟨⟨rfl, rfl, rfl, rfl, trivial⟩, ?_⟩
      conv => whnf
      refine OOK.call [0] rfl rfl rfl (by kernel_rfl) rfl (f_blank g5 hB h4 hok5) (by decide) rfl ?_
      rintro v_ g6 m_ hg6 ⟨ba, h6, rfl, hba, hbal, hh6, rfl⟩
      conv => whnf
      refine ⟨⟨rfl, rfl, rfl, rfl, trivial⟩, ?_⟩
      conv => whnf
      refine OOK.call [0] rfl rfl rfl (by kernel_rfl) rfl (f_loose (Val.mk vk vi vt vl vA vc vs vB vd) 4 g6 hB h6 hh6 (hv5.mono hg6) hvw (by omega) (ht5.mono hg6)) (by decide) rfl ?_
      rintro v_ g7 m_ hg7 ⟨x, h7, rfl, hxL, hxl, hh7, rfl⟩
      conv => whnf
      refine ⟨⟨rfl, rfl, rfl, rfl, trivial⟩, ?_⟩
      conv => whnf
      have hxl2 : x.length ≤ 30000 := Nat.le_trans hxl (by decide)
      rw [str_app]
      refine ⟨by rw [str_size, str_size]; omega, ?_⟩
      conv => whnf
      refine OOK.call [0] rfl rfl rfl (by kernel_rfl) rfl (f_blank g7 hB h7 hh7) (by decide) rfl ?_
      rintro v_ g8 m_ hg8 ⟨bd, h8, rfl, hbd, hbdl, hh8, rfl⟩
      conv => whnf
      refine ⟨⟨rfl, rfl, rfl, rfl, trivial⟩, ?_⟩
      conv => whnf
      rw [str_app]
      refine ⟨by rw [str_size, str_size, List.length_append]; omega, ?_⟩
      conv => whnf
      obtain ⟨q1, q2, q3, q4⟩ := lo_parse hba hbd hxL (by omega) hvw
      refine OOK.call [] rfl rfl rfl (by kernel_rfl) rfl (f_parse_ok g8 (ba ++ x ++ bd) (by rw [List.length_append, List.length_append]; omega) _ _ _ q3 q4) (by decide) rfl ?_
      rintro v_ g9 m_ hg9 ⟨rfl, w, hwt, hwo, rfl⟩
      conv => whnf
      refine ⟨⟨rfl, rfl, rfl, rfl, trivial⟩, ?_⟩
      conv => whnf
      obtain ⟨wk, wi, wt, wl, wA, wc, ws, wB, wd⟩ := w
      conv => whnf
      refine ⟨⟨rfl, rfl, rfl, rfl, trivial⟩, ?_⟩
      conv => whnf
      exact ⟨⟨h8, Val.mk wk wi wt wl wA wc ws wB wd, b6⟩, [0, 1, 2, 3, 4], Sub.of (by decide) rfl ⟨rfl, rfl, rfl, rfl, rfl, rfl, trivial⟩, hh8.mono hg9, hwo, hwt⟩
  rintro ⟨h6, w, b6⟩ g6 hg6 ⟨hok6, hw6, hwt⟩
  simp only at hok6 hw6 hwt
  dsimp only
  have hv6 := hv5.mono hg6
  have ho6 := ho5.mono hg6
  have hwt2 := hwt
  obtain ⟨wk, wi, wt, wl, wA, wc, ws, wB, wd⟩ := w
  have hsame := f_same (Val.mk wk wi wt wl wA wc ws wB wd) (Val.mk vk vi vt vl vA vc vs vB vd) g6 hw6 hv6
  refine COK.seq (vcC_ok _ _ _ _ _ ?_)
  conv => whnf
  refine ⟨(by intro q; cases q), fun _ => ?_⟩
  conv => whnf
  refine ⟨(by intro q; cases q), fun _ => ?_⟩
  conv => whnf
  refine OOK.call [] rfl rfl rfl (by kernel_rfl) rfl hsame (by decide) rfl ?_
  rintro v_ g7 m_ hg7 ⟨rfl, bb, rfl, hbb⟩
  obtain rfl : bb = true := hbb.2 hwt
  conv => whnf
  refine ⟨(by intro q; cases q), fun _ => ?_⟩
  conv => whnf
  obtain ⟨X, hX⟩ : ∃ X, X = (Val.mk vk vi vt vl vA vc vs vB vd).t := ⟨_, rfl⟩
  rw [← hX] at hvw hwt hbb
  have hprint := f_print (Val.mk wk wi wt wl wA wc ws wB wd) 4 g7 (hw6.mono hg7) (by rw [hwt]; exact hvw) (by omega) (ht5.mono (hg6.trans hg7))
  rw [hwt] at hprint
  obtain ⟨tx, htx⟩ : ∃ tx, tx = X.txt := ⟨_, rfl⟩
  have htxl : tx.length ≤ 30000 := by rw [htx]; exact Nat.le_trans (txt_len X 4 hvw) (by decide)
  rw [← htx] at hprint
  refine COK.seq (vcC_ok _ _ _ _ _ ?_)
  conv => whnf
  refine OOK.call [] rfl rfl rfl (by kernel_rfl) rfl hprint (by decide) rfl ?_
  rintro v_ g8 m_ hg8 ⟨rfl, rfl⟩
  conv => whnf
  refine COK.seq (vcC_ok _ _ _ _ _ ?_)
  conv => whnf
  refine ⟨(by intro q; cases q), fun _ => ?_⟩
  conv => whnf
  have hltext := f_ltext (Val.mk vk vi vt vl vA vc vs vB vd) 4 g8 (hv6.mono (hg7.trans hg8)) (by rw [← hX]; exact hvw) (by omega) (ht5.mono (hg6.trans (hg7.trans hg8)))
  rw [← hX, ← htx] at hltext
  refine OOK.call [] rfl rfl rfl (by kernel_rfl) rfl hltext (by decide) rfl ?_
  rintro v_ g9 m_ hg9 ⟨rfl, rfl⟩
  conv => whnf
  refine ⟨fun q => absurd q (by simp), fun _ => ?_⟩
  conv => whnf
  have hvX : X.kind = vk := by rw [hX, Val.t_mk]; rfl
  refine COK.weaken (E := [(3, .own 0 0), (4, .own 1 0), (5, .own 2 0), (6, .own 3 0), (9, .val (.string (str tx)))]) (M := [h6.slot hB, ⟨b4, .cells (Val.mk vk vi vt vl vA vc vs vB vd).cells 28 (0, 0)⟩, ⟨b5, .cells (Val.mk ok oi ot ol oA oc os oB od).cells 28 (0, 0)⟩, ⟨b6, .cells (Val.mk wk wi wt wl wA wc ws wB wd).cells 28 (0, 0)⟩]) (is := [0, 1, 2, 4]) (Sub.of (by decide) rfl ⟨rfl, rfl, rfl, rfl, rfl, trivial⟩) ?_
  have hok9 : h6.ok g9 := hok6.mono (hg7.trans (hg8.trans hg9))
  have hv9 := hv6.mono (hg7.trans (hg8.trans hg9))
  have ho9 := ho6.mono (hg7.trans (hg8.trans hg9))
  have hw9 := hw6.mono (hg7.trans (hg8.trans hg9))
  refine COK.seq (COK.cut (α := Hd × Val) (fun y => [(3, .own 0 0), (4, .own 1 0), (5, .own 2 0), (6, .own 3 0)]) (fun y => [y.1.slot hB, ⟨b4, .cells (Val.mk vk vi vt vl vA vc vs vB vd).cells 28 (0, 0)⟩, ⟨b5, .cells (Val.mk ok oi ot ol oA oc os oB od).cells 28 (0, 0)⟩, ⟨b6, .cells y.2.cells 28 (0, 0)⟩])
    (fun y g' => y.1.ok g') ?_ ?_)
  · refine COK.seq (vcC_ok _ _ _ _ _ ?_)
    conv => whnf
    refine vcC_ok _ _ _ _ _ ?_
    conv => whnf
    refine ⟨fun q1 => ?_, fun q1 => ?_⟩
    rotate_left
    · conv => whnf
      exact ⟨(h6, Val.mk wk wi wt wl wA wc ws wB wd), [0, 1, 2, 3], Sub.of (by decide) rfl ⟨rfl, rfl, rfl, rfl, trivial⟩, hok9⟩
    have hk3 : 3 ≤ X.kind := by rw [hvX]; exact of_decide_eq_true q1
    have htx0 : 1 ≤ tx.length := by
      obtain ⟨c, y, hc, _⟩ := lo_head (lo_txt X 4 hvw)
      rw [htx, hc, List.length_cons]; omega
    conv => whnf
    refine OOK.call [0] rfl rfl rfl (by kernel_rfl) rfl (hand_n g9 hB h6 (tx.length : Int) hok9 (by omega) (by omega)) (by decide) rfl ?_
    rintro v_ g10 m_ hg10 ⟨u, h10, rfl, u0, u1, hnh10, hh10, rfl⟩
    conv => whnf
    rw [str_size]
    refine ⟨⟨by omega, by omega⟩, ?_⟩
    obtain ⟨k, rfl⟩ : ∃ k : Nat, u = k := Int.eq_ofNat_of_zero_le u0
    have hkl : k < tx.length := by omega
    rw [show (str tx).extract 0 (k : Int).toNat = str (tx.take k) by rw [str_ext _ _ _ (by show k ≤ _; omega)]; rfl]
    have htk : (tx.take k).length = k := by rw [List.length_take]; omega
    have hshort := f_parse_short g10 (tx.take k) (by omega) (by
      have h := lo_txt X 4 hvw
      rw [← htx] at h
      exact lo_cut h hvw hk3 hkl)
    rw [htk] at hshort
    conv => whnf
    refine OOK.call [] rfl rfl rfl (by kernel_rfl) rfl hshort (by decide) rfl ?_
    rintro v_ g11 m_ hg11 ⟨rfl, rfl⟩
    conv => whnf
    refine ⟨(by intro q; cases q), fun _ => ?_⟩
    conv => whnf
    refine ⟨fun q => absurd q (by simp), fun _ => ?_⟩
    conv => whnf
    have hz := f_same (Val.mk 0 0 [] [] none 0 [] none 0) (Val.mk 0 0 [] [] none 0 [] none 0) g11 (Val.okS _ _ _ _) (Val.okS _ _ _ _)
    refine OOK.call [] rfl rfl rfl (by kernel_rfl) rfl hz (by decide) rfl ?_
    rintro v_ g12 m_ hg12 ⟨rfl, bz, rfl, hbz⟩
    obtain rfl : bz = true := hbz.2 rfl
    conv => whnf
    refine ⟨(by intro q; cases q), fun _ => ?_⟩
    conv => whnf
    exact ⟨(h10, Val.mk 0 0 [] [] none 0 [] none 0), [0, 1, 2, 3], Sub.of (by decide) rfl ⟨rfl, rfl, rfl, rfl, trivial⟩, hh10.mono (hg11.trans hg12)⟩
  rintro ⟨h10, w10⟩ g10 hg10 hok10
  simp only at hok10
  dsimp only
  have hv10 := hv9.mono hg10
  have ho10 := ho9.mono hg10
  have henc := f_Encode (Val.mk vk vi vt vl vA vc vs vB vd) g10 hv10 (by rw [← hX]; exact hvw)
  rw [← hX] at henc
  obtain ⟨D, hD⟩ : ∃ D, D = X.enc := ⟨_, rfl⟩
  have hDl : D.length ≤ 20000 := by rw [hD]; exact Nat.le_trans (enc_len X 4 hvw) (by decide)
  rw [← hD] at henc
  refine COK.seq (vcC_ok _ _ _ _ _ ?_)
  conv => whnf
  refine OOK.call [] rfl rfl rfl (by kernel_rfl) rfl henc (by decide) rfl ?_
  rintro v_ g11 m_ hg11 ⟨A1, c1, rfl, hR1, rfl⟩
  conv => whnf
  refine COK.dummy 0 ?_
  have hlenc := f_lenc (Val.mk vk vi vt vl vA vc vs vB vd) 4 g11 ⟨0, .dead⟩ none 0 [] (.nil _ rfl) (hv10.mono hg11) (by rw [← hX]; exact hvw) (by rw [← hX, ← hD, List.length_nil]; omega)
  rw [← hX, ← hD, List.nil_append] at hlenc
  refine COK.seq (vcC_ok _ _ _ _ _ ?_)
  conv => whnf
  refine OOK.call [4] rfl rfl rfl (by kernel_rfl) rfl hlenc (by decide) rfl ?_
  rintro v_ g12 m_ hg12 ⟨s6, A6, c6, rfl, hO6, rfl⟩
  conv => whnf
  refine OOK.rowF 5 hO6 rfl fun g13 hg13 hr6 => ?_
  refine OOK.call [] rfl rfl rfl (by kernel_rfl) rfl (f_beqB g13 A1 A6 c1 c6 D D (hR1.mono (hg12.trans hg13)) hr6) (by decide) rfl ?_
  rintro v_ g14 m_ hg14 ⟨rfl, rfl⟩
  conv => whnf
  refine ⟨fun q => absurd q (by simp), fun _ => ?_⟩
  conv => whnf
  have hg1014 := hg11.trans (hg12.trans (hg13.trans hg14))
  refine COK.seq (vcC_ok _ _ _ _ _ ?_)
  conv => whnf
  refine OOK.call [] rfl rfl rfl (by kernel_rfl) rfl (f_open g14 A1 D c1 (hR1.mono (hg12.trans (hg13.trans hg14))) (by omega)) (by decide) rfl ?_
  rintro v_ g15 m_ hg15 ⟨r, B, c', rfl, hRB, hcB, rfl⟩
  conv => whnf
  refine COK.weaken (E := [(3, .own 0 0), (4, .own 1 0), (5, .own 2 0), (6, .own 3 0), (12, .own 4 0)]) (M := [h10.slot hB, ⟨b4, .cells (Val.mk vk vi vt vl vA vc vs vB vd).cells 28 (0, 0)⟩, ⟨b5, .cells (Val.mk ok oi ot ol oA oc os oB od).cells 28 (0, 0)⟩, ⟨b6, .cells w10.cells 28 (0, 0)⟩, rdS r B D.length c' 0]) (is := [0, 1, 2, 3, 6]) (Sub.of (by decide) rfl ⟨rfl, rfl, rfl, rfl, rfl, trivial⟩) ?_
  have hv15 := hv10.mono (hg1014.trans hg15)
  have ho15 := ho10.mono (hg1014.trans hg15)
  refine COK.seq (vcC_ok _ _ _ _ _ ?_)
  conv => whnf
  refine OOK.call [4] rfl rfl rfl (by kernel_rfl) rfl (f_decode r B D c' X g15 hRB hcB hvw hD) (by decide) rfl ?_
  rintro v_ g16 m_ hg16 ⟨y, rfl, hyo, hyt, rfl⟩
  obtain ⟨wk2, wi2, wt2, wl2, wA2, wc2, ws2, wB2, wd2⟩ := w10
  obtain ⟨yk, yi, yt, yl, yA, yc, ys, yB, yd⟩ := y
  conv => whnf
  refine COK.seq (vcC_ok _ _ _ _ _ ?_)
  conv => whnf
  refine OOK.call [4] rfl rfl rfl (by kernel_rfl) rfl (f_rend g16 r B D.length c') (by decide) rfl ?_
  rintro v_ g17 m_ hg17 ⟨rfl, rfl⟩
  conv => whnf
  refine ⟨(by intro q; cases q), fun _ => ?_⟩
  conv => whnf
  have hsame2 := f_same (Val.mk yk yi yt yl yA yc ys yB yd) (Val.mk vk vi vt vl vA vc vs vB vd) g17 (hyo.mono hg17) (hv15.mono (hg16.trans hg17))
  refine OOK.call [] rfl rfl rfl (by kernel_rfl) rfl hsame2 (by decide) rfl ?_
  rintro v_ g18 m_ hg18 ⟨rfl, b2, rfl, hb2⟩
  obtain rfl : b2 = true := hb2.2 (by rw [hyt, hX])
  conv => whnf
  refine ⟨(by intro q; cases q), fun _ => ?_⟩
  conv => whnf
  have hg1518 := hg16.trans (hg17.trans hg18)
  have hv18 := hv15.mono hg1518
  have ho18 := ho15.mono hg1518
  refine COK.weaken (E := [(3, .own 0 0), (4, .own 1 0), (5, .own 2 0)]) (M := [h10.slot hB, ⟨b4, .cells (Val.mk vk vi vt vl vA vc vs vB vd).cells 28 (0, 0)⟩, ⟨b5, .cells (Val.mk ok oi ot ol oA oc os oB od).cells 28 (0, 0)⟩]) (is := [0, 1, 2]) (Sub.of (by decide) rfl ⟨rfl, rfl, rfl, trivial⟩) ?_
  have hvw' : WF 4 (Val.mk vk vi vt vl vA vc vs vB vd).t := by rw [← hX]; exact hvw
  have hls := f_lsize (Val.mk vk vi vt vl vA vc vs vB vd) 4 g18 hv18 hvw' (by omega)
  refine COK.seq (vcC_ok _ _ _ _ _ ?_)
  conv => whnf
  refine OOK.call [] rfl rfl rfl (by kernel_rfl) rfl hls (by decide) rfl ?_
  rintro v_ g19 m_ hg19 ⟨⟨long, rfl⟩, rfl⟩
  conv => whnf
  refine COK.seq (vcC_ok _ _ _ _ _ ?_)
  conv => whnf
  refine OOK.call [] rfl rfl rfl (by kernel_rfl) rfl (f_size (Val.mk vk vi vt vl vA vc vs vB vd) 4 g19 (hv18.mono hg19) hvw' (by omega)) (by decide) rfl ?_
  rintro v_ g20 m_ hg20 ⟨rfl, rfl⟩
  conv => whnf
  refine ⟨fun q => absurd q (by simp), fun _ => ?_⟩
  conv => whnf
  refine OOK.call [] rfl rfl rfl (by kernel_rfl) rfl (f_depth (Val.mk vk vi vt vl vA vc vs vB vd) 4 g20 (hv18.mono (hg19.trans hg20)) hvw' (by omega)) (by decide) rfl ?_
  rintro v_ g21 m_ hg21 ⟨rfl, rfl⟩
  conv => whnf
  refine ⟨fun q => absurd q (by simp), fun _ => ?_⟩
  conv => whnf
  have hv21 := hv18.mono (hg19.trans (hg20.trans hg21))
  have ho21 := ho18.mono (hg19.trans (hg20.trans hg21))
  refine COK.weaken (E := [(3, .own 0 0), (4, .own 1 0), (5, .own 2 0)]) (M := [h10.slot hB, ⟨b4, .cells (Val.mk vk vi vt vl vA vc vs vB vd).cells 28 (0, 0)⟩, ⟨b5, .cells (Val.mk ok oi ot ol oA oc os oB od).cells 28 (0, 0)⟩]) (is := [0, 1, 2]) (Sub.of (by decide) rfl ⟨rfl, rfl, rfl, trivial⟩) ?_
  refine COK.seq (COK.draw [1, 2] (by kernel_rfl) (by kernel_rfl) ?_)
  conv => whnf
  refine OOK.call [] rfl rfl rfl (by kernel_rfl) rfl (f_order (Val.mk vk vi vt vl vA vc vs vB vd) (Val.mk ok oi ot ol oA oc os oB od) g21 hv21 ho21 hvw' how) (by decide) rfl ?_
  rintro v_ g22 m_ hg22 ⟨rfl, rfl⟩
  conv => whnf
  refine ⟨⟨rfl, rfl, rfl, trivial⟩, ?_⟩
  conv => whnf
  refine OOK.call [] rfl rfl rfl (by kernel_rfl) rfl (f_lord (Val.mk vk vi vt vl vA vc vs vB vd) (Val.mk ok oi ot ol oA oc os oB od) 4 g22 (hv21.mono hg22) (ho21.mono hg22) hvw' how) (by decide) rfl ?_
  rintro v_ g23 m_ hg23 ⟨rfl, rfl⟩
  conv => whnf
  refine ⟨⟨rfl, rfl, rfl, trivial⟩, ?_⟩
  conv => whnf
  have hv23 := hv21.mono (hg22.trans hg23)
  have ho23 := ho21.mono (hg22.trans hg23)
  refine ⟨fun _ => ?_, fun q => absurd q (by simp)⟩
  conv => whnf
  refine OOK.call [] rfl rfl rfl (by kernel_rfl) rfl (f_order (Val.mk ok oi ot ol oA oc os oB od) (Val.mk vk vi vt vl vA vc vs vB vd) g23 ho23 hv23 how hvw') (by decide) rfl ?_
  rintro v_ g24 m_ hg24 ⟨rfl, rfl⟩
  conv => whnf
  refine ⟨⟨rfl, rfl, rfl, trivial⟩, ?_⟩
  conv => whnf
  refine OOK.call [] rfl rfl rfl (by kernel_rfl) rfl (f_lord (Val.mk ok oi ot ol oA oc os oB od) (Val.mk vk vi vt vl vA vc vs vB vd) 4 g24 (ho23.mono hg24) (hv23.mono hg24) how hvw') (by decide) rfl ?_
  rintro v_ g25 m_ hg25 ⟨rfl, rfl⟩
  conv => whnf
  refine ⟨⟨rfl, rfl, rfl, trivial⟩, ?_⟩
  conv => whnf
  have hv25 := hv23.mono (hg24.trans hg25)
  have ho25 := ho23.mono (hg24.trans hg25)
  refine ⟨fun _ => ?_, fun q => absurd q (by simp)⟩
  conv => whnf
  refine OOK.call [] rfl rfl rfl (by kernel_rfl) rfl (f_vsame (Val.mk vk vi vt vl vA vc vs vB vd) (Val.mk ok oi ot ol oA oc os oB od) g25 hv25 ho25) (by decide) rfl ?_
  rintro v_ g26 m_ hg26 ⟨rfl, b3, rfl, hb3⟩
  conv => whnf
  refine ⟨⟨rfl, rfl, rfl, trivial⟩, ?_⟩
  conv => whnf
  refine OOK.call [] rfl rfl rfl (by kernel_rfl) rfl (f_same (Val.mk vk vi vt vl vA vc vs vB vd) (Val.mk ok oi ot ol oA oc os oB od) g26 (hv25.mono hg26) (ho25.mono hg26)) (by decide) rfl ?_
  rintro v_ g27 m_ hg27 ⟨rfl, b4', rfl, hb4⟩
  conv => whnf
  refine ⟨⟨rfl, rfl, rfl, trivial⟩, ?_⟩
  conv => whnf
  refine COK.ret ?_
  have e : (b3 == b4') = true := by
    have : b3 = b4' := Bool.eq_iff_iff.2 (hb3.trans hb4.symm)
    rw [this]; simp
  exact .mk ⟨_, [], _, rfl, by decide, rfl, trivial, by rw [e]; rfl, rfl⟩
end Go.Proofs.YthkfnmmbjoadbaaGreatDoor
/- WholeTexts: the statement. -/
set_option linter.unusedVariables false
set_option maxRecDepth 100000
namespace Go.Proofs.YthkfnmmbjoadbaaGreatDoor
open Go Go.SX Go.ChangeShapes Go.WideShapes Go.ChangeAt Go.RowKit

theorem ownKnob_ : ownKnob Tryz.prog.godebug = none := by kernel_rfl
theorem laidOut_ : laidOutB Tryz.prog = true := by kernel_rfl
theorem cellsByte : Tryz.prog.cellsOf 5 = 1 := by kernel_rfl

theorem byte_rng {x : Int} (h : (Lit.int .u8 x).wf = true) : 0 ≤ x ∧ x < 256 := by
  have h1 : IntKind.u8.min = 0 := rfl
  have h2 : IntKind.u8.max = 255 := rfl
  simp only [Lit.wf, Bool.and_eq_true, decide_eq_true_eq] at h
  omega
theorem tabIs_third {P : Program} {W : World} {name : String} {k : IntKind} {zs : List Int} {x y : String × DataW Unit} {rest : List (String × DataW Unit)} {g : Nat} {t e : TypeId} {n : Nat}
    (hg : P.globalNamed name = some g) (hty : (P.globals[g]?).map (·.type) = some t) (ht : P.underlying t = some (.array n e)) (he : P.underlying e = some (.int k)) (hce : P.cellsOf e = 1) (hct : P.cellsOf t = n)
    (h : laidMet P (x :: y :: (name, Lib.tabData k zs) :: rest) W) : Lib.TabIs P W name k zs := by
  obtain ⟨ps, ⟨_, _, _, _, _, _, _, _, _, _, ⟨_, _, _, _, _, _, _, _, _, _, ⟨g', t', cs, fuel, p, q, hg', ht', hvar, hd, _, _⟩, _⟩, _⟩, _⟩ := h
  obtain rfl := Option.some.inj (hg.symm.trans hg')
  obtain rfl := Option.some.inj (hty.symm.trans ht')
  unfold Lib.TabIs
  rw [hvar, ← Lib.cells_of_tab ht he hce hct hd]
theorem tab_all {W : World} (hL : laidMet Tryz.prog Rows.wholeTextsRow.laid W) : TabG (allG W) := by
  have h := tabIs_third (k := .u64) (zs := Lib.pow10Tab) (g := 1) (t := 159) (e := 51) (n := 20) (by kernel_rfl) (by kernel_rfl) (by kernel_rfl) (by kernel_rfl) (by kernel_rfl) (by kernel_rfl) hL
  intro w hw
  unfold Lib.TabIs World.var? at h ⊢
  cases hg : Tryz.prog.globalNamed "internal/strconv.uint64pow10" with
  | none => rw [hg] at h; cases h
  | some gg =>
    rw [hg] at h
    simp only [Option.bind_some] at h ⊢
    cases hb : W.heap[gg]? with
    | none => rw [hb] at h; cases h
    | some o => rw [hw gg o hb]; rw [hb] at h; exact h
theorem contract (H : Type) (enc : TypeId × Value → H) (W : World) (base : Nat) (args : Array Value) (ds gs : List (DataW H)) (before : List MemPlace) (hL : laidMet Tryz.prog Rows.wholeTextsRow.laid W)
    (hval : ∀ (j : Nat) t v, Tryz.f3.params[j]? = some t → args[j]? = some v → Value.okWide Tryz.prog W .any base t v)
    (hW : DataW.Whole enc Tryz.prog Tryz.f3.params.toList Rows.wholeTextsSpec.vars false W args.toList ds gs before) :
    Calls Tryz.prog 3 args W fun e W' => ∃ v, e = .returned v ∧ Rows.wholeTextsSpec.post enc Tryz.prog Tryz.f3 false true false false W args v W' := by
  have hW' := hW
  obtain ⟨p, q, hA0, hV, rfl, hfz, hnd⟩ := hW
  have hA : DataW.TrodAll enc Tryz.prog W 0 (fun _ => true) true Tryz.f3.params.toList args.toList ds p := hA0
  rw [Tryz.params3] at hA hval
  obtain ⟨v0, vs0, d0, ds0, p0, q0, hargs, rfl, rfl, h0, r0⟩ := trodAll_cons hA
  obtain ⟨rfl, rfl, rfl⟩ := trodAll_nil r0
  obtain rfl : args = #[v0] := by cases args; simp_all
  obtain ⟨rfl, rfl⟩ := trodVars_none hV
  obtain ⟨a0, len, cap, rfl⟩ := okWide_slice Tryz.underlying22 (hval 0 22 v0 rfl rfl)
  clear hA0
  simp only [List.append_nil] at hW'
  have hlt : ∀ x ∈ p0, x.block < W.heap.size := fun x hx => by simpa using hW'.lt x hx
  have hbytes : BytesG (allG W) a0 len := by
    obtain ⟨fuel, hf⟩ := h0
    rcases open_ints Tryz.underlying22 Tryz.underlying5 cellsByte hf with ⟨hcs, hx⟩ | ⟨a, len', cap', zs, hcs, _, hl, hm, hz, hx, hcell, hwz⟩
    · simp [Value.cells] at hcs
      obtain ⟨rfl, rfl, rfl⟩ := hcs
      intro i hi
      omega
    · simp [Value.cells] at hcs
      obtain ⟨rfl, rfl, rfl⟩ := hcs
      simp only [if_true] at hz
      intro i hi
      have hb := byte_rng (hwz (zs.getD i 0) (by rw [List.getD_eq_getElem?_getD, List.getElem?_eq_getElem (by omega)]; simp))
      exact ⟨a, rfl, zs.getD i 0, hb.1, by omega, by rw [addN_eq]; exact cellG_all (hcell i (by omega))⟩
  refine (Tri.row (f_whole (allG W) a0 len cap hbytes (tab_all hL))).mono fun e W' ⟨he, hg⟩ => ?_
  subst he
  exact ⟨_, rfl, post_below (pa := p0 ++ []) (pv := []) hW' (fun _ _ _ => trodAll_cons_mk (shut_bool Tryz.underlying4 _) trodAll_mk0) (fun sp hsp => trodAll_cons_mk (WideElems.Trod_stays laidOut_ (by kernel_rfl) (of_decide_eq_true (by kernel_rfl)) h0 (fun x hx => hg.same (hlt x hx)) (fun x hx => hsp x (by simpa using hx))) trodAll_mk0) (fun _ _ => rfl) (by simp)
    hg (ok_one (by kernel_rfl) rfl (okWide_bool_mk Tryz.underlying4 _))⟩

/-- A world for the witness: the tables hold what the text lays. -/
def lay (cs : Array Value) : Obj → Obj
  | .cells _ t frozen => .cells cs t frozen
  | o => o
def tab0 : Array Value := #[.int .u64 1, .int .u64 10, .int .u64 100, .int .u64 1000, .int .u64 10000, .int .u64 100000, .int .u64 1000000, .int .u64 10000000, .int .u64 100000000, .int .u64 1000000000, .int .u64 10000000000, .int .u64 100000000000, .int .u64 1000000000000, .int .u64 10000000000000, .int .u64 100000000000000, .int .u64 1000000000000000, .int .u64 10000000000000000, .int .u64 100000000000000000, .int .u64 1000000000000000000, .int .u64 10000000000000000000]
def u8s (l : List Int) : Array Value := (l.map fun n => Value.int .u8 n).toArray
def tab1 : Array Value := u8s [0, 1, 28, 2, 29, 14, 24, 3, 30, 22, 20, 15, 25, 17, 4, 8, 31, 27, 13, 23, 21, 19, 16, 7, 26, 12, 18, 6, 11, 5, 10, 9]
def tab2 : Array Value := u8s [0, 1, 56, 2, 57, 49, 28, 3, 61, 58, 42, 50, 38, 29, 17, 4, 62, 47, 59, 36, 45, 43, 51, 22, 53, 39, 33, 30, 24, 18, 12, 5, 63, 55, 48, 27, 60, 41, 37, 16, 46, 35, 44, 21, 52, 32, 23, 11, 54, 26, 40, 15, 34, 20, 31, 10, 25, 14, 19, 9, 13, 8, 7, 6]
def errRange : ByteArray := { data := #[118, 97, 108, 117, 101, 32, 111, 117, 116, 32, 111, 102, 32, 114, 97, 110, 103, 101] }
def errSyntax : ByteArray := { data := #[105, 110, 118, 97, 108, 105, 100, 32, 115, 121, 110, 116, 97, 120] }
noncomputable def low : Nat := (World.holding Tryz.prog default ⟨#[], #[], []⟩).heap.size
noncomputable def laidWorld (os : Os) : World :=
  let w0 := World.holding Tryz.prog os ⟨#[.cells #[.string errRange] 179, .cells #[.string errSyntax] 179], #[], []⟩
  { w0 with heap := ((((w0.heap.modify 1 (lay tab0)).modify 4 (lay tab1)).modify 5 (lay tab2)).modify 3 (lay #[.iface 177 (.pointer (some ⟨low, 0, none⟩))])).modify 2 (lay #[.iface 177 (.pointer (some ⟨low + 1, 0, none⟩))]) }
theorem laid_met (os : Os) : laidMet Tryz.prog Rows.wholeTextsRow.laid ((laidWorld os).forCall (fun _ _ => 0) ⟨#[], #[.slice none 0 0], []⟩).memory :=
  laidMet_of_run' 8 (by kernel_rfl) (by kernel_rfl)
theorem reads (os : Os) {H : Type} (enc : TypeId × Value → H) : ∃ places, DataW.whole enc Tryz.prog ((laidWorld os).forCall (fun _ _ => 0) ⟨#[], #[.slice none 0 0], []⟩).memory Tryz.f3.params.toList Rows.wholeTextsSpec.vars false #[Value.slice none 0 0].toList 8 = some ([.nil], [], places) :=
  ⟨[], by kernel_rfl⟩

theorem lifted (os : Os) (started : os.Started) (H : Type) (enc : TypeId × Value → H) (F : Stop.Interp) :
    ReturnsInHanded {} Tryz.checked os 3 .any ((OpenSpec.ofChange Rows.wholeTextsSpec).preRow enc Tryz.prog Tryz.f3 Rows.wholeTextsRow.domain false Rows.wholeTextsRow.laid) (((OpenSpec.ofChange Rows.wholeTextsSpec).at F).post enc Tryz.prog Tryz.f3 false true false false) := by
  obtain ⟨places, hx⟩ := reads os enc
  refine returnsInHanded_of_row (C := Tryz.checked) (s := OpenSpec.ofChange Rows.wholeTextsSpec) ownKnob_ started (by kernel_rfl) Tryz.func3
    (witness_row_at (enc := enc) (C := Tryz.checked) false (laidWorld os) #[.slice none 0 0] rfl (by kernel_rfl) (by kernel_rfl) (by kernel_rfl)
      (OpenSpec.preRow_of_cond 8 hx (by kernel_rfl) (fun k hk => by cases hk) (by kernel_rfl) (laid_met os))) ?_
  intro W base args ds gs before hval hW _ _ _ hL _ _
  exact contract H enc W base args ds gs before hL hval hW

theorem said : Rows.WholeTextsSaid :=
  OpenClaim.holds_of_cond 3 Tryz.f3 rfl rfl rfl rfl rfl rfl rfl ⟨rfl, rfl, rfl, rfl, rfl⟩ rfl rfl rfl rfl rfl (by kernel_rfl) Tryz.func3 (by kernel_rfl)
    (of_decide_eq_true (by kernel_rfl)) (by unfold Func.isWrapper; first | (rw [if_pos (by decide +kernel)]; kernel_rfl) | (rw [if_neg (by decide +kernel)]; exact ⟨rfl, rfl⟩))
    (fun os started H enc _ F => by rw [OpenClaim.pre_eq_preRow]; exact lifted os started H enc F)

theorem plain_ (f : FuncId) (fn : Func) (hf : Tryz.pinned.checked.prog.funcNamed "workflow/workflowtop.WholeTexts" = some f) (hfn : Tryz.pinned.checked.prog.funcs[f]? = some fn) :
    true = Tryz.pinned.checked.prog.looks [] ∧ ∀ (j : Nat) t, fn.params[j]? = some t → Tryz.pinned.checked.prog.wantsStandIn t = false := by
  obtain rfl : f = 3 := Option.some.inj ((show Tryz.prog.funcNamed "workflow/workflowtop.WholeTexts" = some 3 by kernel_rfl).symm.trans hf) |>.symm
  obtain rfl : fn = Tryz.f3 := (Option.some.inj (Tryz.func3.symm.trans hfn)).symm
  refine ⟨by kernel_rfl, fun j t ht => ?_⟩
  rw [Tryz.params3] at ht
  obtain rfl : t = 22 := by simpa using Array.mem_of_getElem? ht
  exact (show Tryz.prog.wantsStandIn 22 = false by kernel_rfl)

/-- The card. -/
theorem card : Rows.WholeTextsCardSaid :=
  Claim7.holds_tied_plain_at .later [] _ _ _ _ said (fun _ h => by cases h) (by kernel_rfl) (fun _ h => by cases h) wholeTexts_row_tie rfl ⟨rfl, rfl⟩ (by kernel_rfl) rfl plain_ (by kernel_rfl)
end Go.Proofs.YthkfnmmbjoadbaaGreatDoor
