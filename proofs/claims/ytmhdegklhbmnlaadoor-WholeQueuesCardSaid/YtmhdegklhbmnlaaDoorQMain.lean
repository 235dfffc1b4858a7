/- WholeQueues: the walk of the whole. -/
import Derived.Test.YtmhdegklhbmnlaaDoorQLaw
import Derived.Test.YtmhdegklhbmnlaaDoorHand
set_option linter.unusedVariables false
set_option linter.unusedSimpArgs false
set_option maxRecDepth 100000
namespace Go.Proofs.YtmhdegklhbmnlaaDoor
open Go Go.SX

structure St where
  i : Nat
  h : Hd
  l : List Item
  A : Option Addr
  c : Nat
  qt : Int
  now : Int
  sl : Slot
  B : Option Addr
  d : Nat
def qBox (b : Nat) (A : Option Addr) (n c : Nat) (qt : Int) : Slot := ⟨b, .cells [.slice A n c, .int .i64 qt] 27 (0, 0)⟩
structure St.ok (N : Int) (g : GH) (x : St) : Prop where
  i : (x.i : Int) ≤ N
  h : x.h.ok g
  row : Row g Item.enc x.A x.l
  own : OwnAt 34 12 Own.enc (x.l.map Item.own) x.sl x.B x.d
  len : x.l.length ≤ x.i
  q0 : 0 ≤ x.qt
  q1 : x.qt ≤ x.i
  n0 : 0 ≤ x.now
  n1 : x.now ≤ 4 * x.i
  its : ∀ y ∈ x.l, ItemOk x.i y
def Found (l : List Own) (p : Own → Bool) (at_ : Int) : Prop := (∃ k : Nat, l.findIdx? p = some k ∧ at_ = k) ∨ (l.findIdx? p = none ∧ at_ = -1)

/-- What stands behind a round's operation. -/
structure Af where
  h : Hd
  l : List Item
  A : Option Addr
  c : Nat
  qt : Int
  code : Int
  nA : Option Addr
  nn : Nat
  nc : Nat
  nq : Int
  sl : Slot
  B : Option Addr
  d : Nat
structure Af.ok (i : Nat) (l : List Item) (A : Option Addr) (c : Nat) (qt : Int) (g : GH) (x : Af) : Prop where
  h : x.h.ok g
  row : Row g Item.enc x.A x.l
  own : OwnAt 34 12 Own.enc (x.l.map Item.own) x.sl x.B x.d
  len : x.l.length ≤ i + 1
  q0 : 0 ≤ x.qt
  q1 : x.qt ≤ i + 1
  its : ∀ y ∈ x.l, ItemOk (i + 1) y
  code : (x.code = 0 ∧ x.nA = x.A ∧ x.nn = x.l.length ∧ x.nc = x.c ∧ x.nq = x.qt) ∨ (x.code = 24 ∧ x.A = A ∧ x.l = l ∧ x.c = c ∧ x.qt = qt)
set_option maxHeartbeats 20000000 in
theorem f_whole (g : GH) (A : Option Addr) (n c : Nat) (hb : BytesG g A n) :
    Tri Tryd.prog 3 [.slice A n c] g [] fun v g' m' => v = .bool true ∧ m' = [] := by
  refine Tri.vc [.val (.slice A n c)] Tryd.func3 rfl Tryd.ntmps3 rfl rfl ?_
  conv => whnf
  refine ⟨fun _ => ?_, fun q => ?_⟩
  · conv => whnf
    exact .mk ⟨_, [], _, rfl, by decide, rfl, trivial, rfl, rfl⟩
  have hn : n ≤ 4096 := by have := of_decide_eq_false q; omega
  conv => whnf
  refine OOK.call [] rfl rfl rfl (by kernel_rfl) rfl (hand_new g A n c hn hb) (by decide) rfl ?_
  rintro v g1 m1 hg1 ⟨hB, s, rfl, rfl⟩
  conv => whnf
  intro qb
  conv => whnf
  intro nb
  conv => whnf
  refine OOK.call [0] rfl rfl rfl (by kernel_rfl) rfl (hand_n g1 hB ⟨A, n, c, 0, s, 260, .slice none 0 0, 0, false⟩ 70 ⟨Int.le_refl 0, by simp only; omega, hn, hb.mono hg1⟩ (by omega) (by omega)) (by decide) rfl ?_
  rintro v g2 m2 hg2 ⟨N, h1, rfl, hN0, hN1, -, hok1, rfl⟩
  conv => whnf
  refine COK.dummy 0 ?_
  conv => whnf
  refine COK.loop (α := St) (fun x => [(3, .own 0 0), (4, .own 1 0), (5, .val (.slice x.B (x.l.map Item.own).length x.d)), (6, .own 2 0), (7, .val (.int .i64 x.qt)), (28, .val (.int .i64 N)), (29, .val (.int .i64 x.i))])
    (fun x => [x.h.slot hB, qBox qb x.A x.l.length x.c x.qt, intBox nb x.now, x.sl]) (fun x g => x.ok N g) (fun x => (N - x.i).toNat)
    ⟨0, h1, [], none, 0, 0, 0, ⟨0, .dead⟩, none, 0⟩ [0, 1, 2, 3] (Sub.of (by decide) rfl ⟨rfl, rfl, rfl, rfl, rfl, rfl, rfl, trivial⟩)
    ⟨hN0, hok1, fun h => absurd rfl h, .nil _ rfl, Nat.le_refl _, Int.le_refl _, Int.le_refl _, Int.le_refl _, Int.le_refl _, by simp⟩ ?_
  rintro ⟨i, h, l, A, c, qt, now, sl, B, d⟩ g3 hg3 hI
  have ⟨hi, hh, hrow, hown, hlen, hq0, hq1, hn0, hn1, hits⟩ := hI
  simp only at hi hh hrow hown hlen hq0 hq1 hn0 hn1 hits
  dsimp only
  refine COK.seq (vcC_ok _ _ _ _ _ ?_)
  conv => whnf
  refine COK.seq (vcC_ok _ _ _ _ _ ?_)
  conv => whnf
  refine ⟨fun q => ?_, fun q => ?_⟩
  rotate_left
  · conv => whnf
    exact .mk ⟨_, [], _, rfl, by decide, rfl, trivial, rfl, rfl⟩
  have hlt : (i : Int) < N := of_decide_eq_true q
  conv => whnf
  refine COK.seq (COK.block ?_)
  -- now += h.n(4), in any order
  have e1 : ∀ u : Int, 0 ≤ u → u < 4 → IntKind.i64.wrap (now + u) = now + u := fun u h0 h1 => i64_in (by omega) (by omega)
  refine COK.seq (COK.cut (α := Hd × Int) (fun x => [(3, .own 0 0), (4, .own 1 0), (5, .val (.slice B (l.map Item.own).length d)), (6, .own 2 0), (7, .val (.int .i64 qt)), (28, .val (.int .i64 N)), (29, .val (.int .i64 i))])
    (fun x => [x.1.slot hB, qBox qb A l.length c qt, intBox nb x.2, sl]) (fun x g => x.1.ok g ∧ now ≤ x.2 ∧ x.2 ≤ now + 3) ?_ ?_)
  · refine COK.draw [] (by kernel_rfl) (by kernel_rfl) ?_
    conv => whnf
    refine ⟨?_, ?_⟩
    · conv => whnf
      refine ⟨⟨rfl, rfl, rfl, rfl, trivial⟩, ?_⟩
      conv => whnf
      refine OOK.call [0] rfl rfl rfl (by kernel_rfl) rfl (hand_n g3 hB h 4 hh (by omega) (by omega)) (by decide) rfl ?_
      rintro v_ g4 m_ hg4 ⟨u, h4, rfl, u0, u1, -, hh4, rfl⟩
      conv => whnf
      refine ⟨⟨rfl, rfl, rfl, rfl, trivial⟩, ?_⟩
      conv => whnf
      refine ⟨⟨rfl, rfl, rfl, rfl, trivial⟩, ?_⟩
      conv => whnf
      exact ⟨(h4, now + u), [0, 1, 2, 3], Sub.of (by decide) (by rw [e1 u u0 u1]; rfl) ⟨rfl, rfl, rfl, rfl, rfl, rfl, rfl, trivial⟩, hh4, by simp only; omega, by simp only; omega⟩
    · refine OOK.call [0] rfl rfl rfl (by kernel_rfl) rfl (hand_n g3 hB h 4 hh (by omega) (by omega)) (by decide) rfl ?_
      rintro v_ g4 m_ hg4 ⟨u, h4, rfl, u0, u1, -, hh4, rfl⟩
      conv => whnf
      refine ⟨⟨rfl, rfl, rfl, rfl, trivial⟩, ?_⟩
      conv => whnf
      refine ⟨⟨rfl, rfl, rfl, rfl, trivial⟩, ?_⟩
      conv => whnf
      refine ⟨⟨rfl, rfl, rfl, rfl, trivial⟩, ?_⟩
      conv => whnf
      exact ⟨(h4, now + u), [0, 1, 2, 3], Sub.of (by decide) (by rw [e1 u u0 u1]; rfl) ⟨rfl, rfl, rfl, rfl, rfl, rfl, rfl, trivial⟩, hh4, by simp only; omega, by simp only; omega⟩
  rintro ⟨h5, now5⟩ g5 hg5 ⟨hh5, hn5, hn6⟩
  simp only at hn5 hn6
  dsimp only
  conv => whnf
  refine COK.seq (vcC_ok _ _ _ _ _ ?_)
  conv => whnf
  have hown5 := hown
  have hrl : (l.map Item.own).length = l.length := by simp
  refine OOK.call [0] rfl rfl rfl (by kernel_rfl) rfl (hand_n g5 hB h5 9 hh5 (by omega) (by omega)) (by decide) rfl ?_
  rintro v_ g6 m_ hg6 ⟨u6, h6, rfl, u60, u61, -, hh6, rfl⟩
  obtain ⟨ttl, httl⟩ : ∃ t, t = IntKind.i64.wrap (1 + u6) := ⟨_, rfl⟩
  have httl' : ttl = 1 + u6 := by rw [httl, i64_in (by omega) (by omega)]
  have eq2 : IntKind.i64.wrap (qt + 2) = qt + 2 := i64_in (by omega) (by omega)
  conv => whnf
  rw [← httl]
  refine COK.seq (vcC_ok _ _ _ _ _ ?_)
  conv => whnf
  refine OOK.call [0] rfl rfl rfl (by kernel_rfl) rfl (hand_n g6 hB h6 (IntKind.i64.wrap (qt + 2)) hh6 (by rw [eq2]; omega) (by rw [eq2]; omega)) (by decide) rfl ?_
  rintro v_ g7 m_ hg7 ⟨u7, h7, rfl, u70, u71, -, hh7, rfl⟩
  obtain ⟨tok, htok⟩ : ∃ t, t = IntKind.i64.wrap (1 + u7) := ⟨_, rfl⟩
  have htok' : tok = 1 + u7 := by rw [htok, i64_in (by omega) (by omega)]
  conv => whnf
  intro tb
  conv => whnf
  rw [← htok]
  refine COK.seq (vcC_ok _ _ _ _ _ ?_)
  conv => whnf
  refine OOK.call [4, 3] rfl rfl rfl (by kernel_rfl) rfl (indexTask Own.enc Own.len g7 [intBox tb tok, sl] B d (l.map Item.own) _ _ (fun x => x.token == tok) (hown.in_ 1 rfl) (by omega) (by kernel_rfl) fun g' hg x hx => Tri.sub [0] (by decide) rfl (c_tok g' tb tok x)) (by decide) rfl ?_
  rintro v_ g8 m_ hg8 ⟨rfl, hv⟩
  obtain ⟨at_, rfl, hat⟩ : ∃ at_, v_ = .int .i64 at_ ∧ Found (l.map Item.own) (fun x => x.token == tok) at_ := by
    rcases hv with ⟨k, h1, rfl⟩ | ⟨h1, rfl⟩
    · exact ⟨_, rfl, .inl ⟨k, h1, rfl⟩⟩
    · exact ⟨_, rfl, .inr ⟨h1, rfl⟩⟩
  conv => whnf
  have hgot : ∀ (k : Nat) (x : Item), l[k]? = some x → ∃ b rest, sl = ⟨b, .cells ((l.map Item.own).flatMap Own.enc ++ rest) 34 (0, 0)⟩ ∧ B = some ⟨b, 0, none⟩ ∧ ((l.map Item.own).flatMap Own.enc ++ rest).length = d * 12 ∧ (l.map Item.own).length ≤ d ∧
      ∀ (j : Nat) (v : Value), x.own.enc[j]? = some v → ((l.map Item.own).flatMap Own.enc ++ rest)[0 + k * 12 + j]? = some v := by
    intro k x hx
    have hkl := (List.getElem?_eq_some_iff.1 hx).1
    obtain ⟨b, rest, k1, k2, k3, k4⟩ := hown.live (k := k) (by omega)
    refine ⟨b, rest, k1, k2, k3, k4, fun j v hv => ?_⟩
    have h1 := flat_get Own.len (l.map Item.own) k j x.own v (by simp [hx]) hv
    rw [Nat.zero_add, List.getElem?_append_left (List.getElem?_eq_some_iff.1 h1).1]; exact h1
  refine COK.seq (COK.cut (α := Bool) (fun x => [(3, .own 0 0), (4, .own 1 0), (5, .val (.slice B (l.map Item.own).length d)), (6, .own 2 0), (7, .val (.int .i64 qt)), (8, .val (.int .i64 ttl)), (9, .own 4 0), (10, .val (.int .i64 at_)), (11, .val (.bool x)), (28, .val (.int .i64 N)), (29, .val (.int .i64 i))])
    (fun _ => [h7.slot hB, qBox qb A l.length c qt, intBox nb now5, sl, intBox tb tok]) (fun x _ => (∃ k y, l.findIdx? (fun x => x.token == tok) = some k ∧ l[k]? = some y ∧ at_ = k ∧ x = decide (y.until_ > now5)) ∨ (l.findIdx? (fun x => x.token == tok) = none ∧ at_ = -1 ∧ x = false)) ?_ ?_)
  · refine COK.quiet (by kernel_rfl) (by kernel_rfl) ?_
    rcases hat with ⟨k, hk, rfl⟩ | ⟨hk, rfl⟩
    · rw [find_tok] at hk
      have hkl := findIdx_lt hk
      obtain ⟨y, hy⟩ : ∃ y, l[k]? = some y := ⟨_, List.getElem?_eq_getElem hkl⟩
      obtain ⟨b, rest, rfl, rfl, hc1, hc2, hcell⟩ := hgot k y hy
      conv => whnf
      refine ⟨fun _ => ?_, fun q => absurd (of_decide_eq_false q) (by omega)⟩
      conv => whnf
      refine ⟨⟨by omega, by omega⟩, ?_⟩
      conv => whnf
      refine YN.loadOwn (b := b) (q := 0 + k * 12 + 9) (v := .int .i64 y.until_) 3 rfl rfl rfl rfl (hcell 9 _ rfl) ?_
      conv => whnf
      exact ⟨decide (y.until_ > now5), [0, 1, 2, 3, 4], Sub.of (by decide) rfl ⟨rfl, rfl, rfl, rfl, rfl, rfl, rfl, rfl, rfl, rfl, rfl, trivial⟩, .inl ⟨k, y, hk, hy, rfl, rfl⟩⟩
    · rw [find_tok] at hk
      conv => whnf
      refine ⟨fun q => absurd (of_decide_eq_true q) (by omega), fun _ => ?_⟩
      conv => whnf
      exact ⟨false, [0, 1, 2, 3, 4], Sub.of (by decide) rfl ⟨rfl, rfl, rfl, rfl, rfl, rfl, rfl, rfl, rfl, rfl, rfl, trivial⟩, .inr ⟨hk, rfl, rfl⟩⟩
  intro live g9 hg9 hlive
  conv => whnf
  refine COK.seq (vcC_ok _ _ _ _ _ ?_)
  conv => whnf
  refine COK.seq (COK.cut (α := Int) (fun x => [(3, .own 0 0), (4, .own 1 0), (5, .val (.slice B (l.map Item.own).length d)), (6, .own 2 0), (7, .val (.int .i64 qt)), (8, .val (.int .i64 ttl)), (9, .own 4 0), (10, .val (.int .i64 at_)), (11, .val (.bool live)), (12, .val (.int .i64 x)), (28, .val (.int .i64 N)), (29, .val (.int .i64 i))])
    (fun _ => [h7.slot hB, qBox qb A l.length c qt, intBox nb now5, sl, intBox tb tok]) (fun x _ => x = if at_ < 0 then 24 else 0) ?_ ?_)
  · refine vcC_ok _ _ _ _ _ ?_
    conv => whnf
    refine ⟨fun q => ?_, fun q => ?_⟩
    · conv => whnf
      exact ⟨24, [0, 1, 2, 3, 4], Sub.of (by decide) rfl ⟨rfl, rfl, rfl, rfl, rfl, rfl, rfl, rfl, rfl, rfl, rfl, rfl, trivial⟩, by rw [if_pos (of_decide_eq_true q)]⟩
    · conv => whnf
      exact ⟨0, [0, 1, 2, 3, 4], Sub.of (by decide) rfl ⟨rfl, rfl, rfl, rfl, rfl, rfl, rfl, rfl, rfl, rfl, rfl, rfl, trivial⟩, by rw [if_neg (of_decide_eq_false q)]⟩
  intro want g10 hg10 hwant
  conv => whnf
  refine COK.seq (vcC_ok _ _ _ _ _ ?_)
  conv => whnf
  refine COK.seq (vcC_ok _ _ _ _ _ ?_)
  conv => whnf
  intro xb
  conv => whnf
  refine COK.seq (vcC_ok _ _ _ _ _ ?_)
  conv => whnf
  have hg10' : g3.le g10 := ((((hg5.trans hg6).trans hg7).trans hg8).trans hg9).trans hg10
  refine COK.seq (COK.cut (α := Af) (fun x => [(3, .own 0 0), (4, .own 1 0), (5, .val (.slice x.B (x.l.map Item.own).length x.d)), (6, .own 2 0), (7, .val (.int .i64 x.qt)), (12, .val (.int .i64 x.code)), (13, .val (.int .i64 x.code)), (14, .own 3 0), (15, .val (.bool true)), (28, .val (.int .i64 N)), (29, .val (.int .i64 i))])
    (fun x => [x.h.slot hB, qBox qb A l.length c qt, intBox nb now5, qBox xb x.nA x.nn x.nc x.nq, x.sl]) (fun x g => x.ok i l A c qt g) ?_ ?_)
  · refine COK.seq (vcC_ok _ _ _ _ _ ?_)
    conv => whnf
    refine OOK.call [0] rfl rfl rfl (by kernel_rfl) rfl (hand_n g10 hB h7 7 (hh7.mono ((hg8.trans hg9).trans hg10)) (by omega) (by omega)) (by decide) rfl ?_
    rintro v_ g11 m_ hg11 ⟨u11, h11, rfl, u110, u111, -, hh11, rfl⟩
    conv => whnf
    refine COK.block ?_
    refine COK.seq (COK.cut (α := Bool) (fun x => [(3, .own 0 0), (4, .own 1 0), (5, .val (.slice B (l.map Item.own).length d)), (6, .own 2 0), (7, .val (.int .i64 qt)), (8, .val (.int .i64 ttl)), (9, .own 4 0), (10, .val (.int .i64 at_)), (11, .val (.bool live)), (12, .val (.int .i64 want)), (14, .own 5 0), (15, .val (.bool true)), (28, .val (.int .i64 N)), (29, .val (.int .i64 i)), (61, .val (.int .i64 u11)), (62, .val (.bool x))])
      (fun _ => [h11.slot hB, qBox qb A l.length c qt, intBox nb now5, sl, intBox tb tok, qBox xb A l.length c qt]) (fun x _ => x = true ∨ 2 ≤ u11) ?_ ?_)
    · refine vcC_ok _ _ _ _ _ ?_
      conv => whnf
      refine ⟨fun q => ?_, fun q => ?_⟩
      · conv => whnf
        exact ⟨_, [0, 1, 2, 3, 4, 5], Sub.of (by decide) rfl ⟨rfl, rfl, rfl, rfl, rfl, rfl, rfl, rfl, rfl, rfl, rfl, rfl, rfl, rfl, rfl, rfl, trivial⟩, .inl q⟩
      · conv => whnf
        exact ⟨_, [0, 1, 2, 3, 4, 5], Sub.of (by decide) rfl ⟨rfl, rfl, rfl, rfl, rfl, rfl, rfl, rfl, rfl, rfl, rfl, rfl, rfl, rfl, rfl, rfl, trivial⟩, by
          by_cases h1 : u11 = 1
          · exact .inl (by simp [h1])
          · exact .inr (by have : u11 ≠ 0 := by simpa using q
                           omega)⟩
    intro x62 g12 hg12 h62
    conv => whnf
    refine COK.cond rfl (fun q => ?_) (fun q => ?_)
    · refine COK.seq (COK.cut (α := Hd × Task × Nat) (fun x => [(3, .own 0 0), (4, .own 1 0), (5, .val (.slice B (l.map Item.own).length d)), (6, .own 2 0), (7, .val (.int .i64 qt)), (14, .own 4 0), (16, .own 5 0), (28, .val (.int .i64 N)), (29, .val (.int .i64 i))])
        (fun x => [x.1.slot hB, qBox qb A l.length c qt, intBox nb now5, sl, qBox xb A l.length c qt, taskBox x.2.2 x.2.1]) (fun x g => x.1.ok g ∧ x.2.1.run = r1 ∧ 1 ≤ x.2.1.id ∧ x.2.1.wf ≠ noStr) ?_ ?_)
      · refine COK.drawL [7] [2] (by kernel_rfl) (by kernel_rfl) ?_
        conv => whnf
        have hh12 : h11.ok g12 := hh11.mono hg12
        have e9 : ∀ u : Int, 0 ≤ u → u < 9 → IntKind.i64.wrap (1 + u) = 1 + u := fun u h0 h1 => i64_in (by omega) (by omega)
        have en9 : IntKind.i64.wrap (now5 + 9) = now5 + 9 := i64_in (by omega) (by omega)
        have hab : ∀ u : Int, 0 ≤ u → u < 2 → ([Value.string ⟨#[97]⟩, .string ⟨#[98]⟩])[0 + u.toNat * 1]? = some (.string (if u = 0 then ⟨#[97]⟩ else ⟨#[98]⟩)) := fun u h0 h1 => by
          rcases (by omega : u = 0 ∨ u = 1) with rfl | rfl <;> rfl
        have hne : ∀ u : Int, (if u = 0 then (⟨#[97]⟩ : ByteArray) else ⟨#[98]⟩) ≠ noStr := fun u => by
          split <;> (unfold noStr; intro q; cases q)
        refine OAnd.mk ?_ ?_
        · conv => whnf
          refine OOK.call [0] rfl rfl rfl (by kernel_rfl) rfl (hand_n g12 hB h11 9 hh12 (by omega) (by omega)) (by decide) rfl ?_
          rintro v_ ga m_ hga ⟨ua, ha, rfl, ua0, ua1, -, hha, rfl⟩
          conv => whnf
          refine OAnd.mk ⟨rfl, rfl, rfl, rfl, rfl, rfl, trivial⟩ ?_
          conv => whnf
          refine OAnd.mk ?_ ?_
          · conv => whnf
            intro bs
            conv => whnf
            refine OAnd.mk ⟨rfl, rfl, rfl, rfl, rfl, rfl, trivial⟩ ?_
            conv => whnf
            refine OAnd.mk ?_ ?_
            · conv => whnf
              refine OOK.call [0] rfl rfl rfl (by kernel_rfl) rfl (hand_n ga hB ha 2 hha (by omega) (by omega)) (by decide) rfl ?_
              rintro v_ gb m_ hgb ⟨ub, hb2, rfl, ub0, ub1, -, hhb2, rfl⟩
              conv => whnf
              refine OAnd.mk ⟨rfl, rfl, rfl, rfl, rfl, rfl, trivial⟩ ?_
              conv => whnf
              refine ONeed.mk ⟨by omega, by omega⟩ ?_
              conv => whnf
              refine OAnd.mk ?_ ?_
              · conv => whnf
                refine OOK.yn (YN.loadOwn 6 rfl rfl rfl rfl (hab ub ub0 ub1) ?_)
                conv => whnf
                refine OAnd.mk ⟨rfl, rfl, rfl, rfl, rfl, rfl, trivial⟩ ?_
                conv => whnf
                refine OAnd.mk ?_ ?_
                · conv => whnf
                  refine OOK.call [0] rfl rfl rfl (by kernel_rfl) rfl (hand_n gb hB hb2 (IntKind.i64.wrap (now5 + 9)) hhb2 (by rw [en9]; omega) (by rw [en9]; omega)) (by decide) rfl ?_
                  rintro v_ gd m_ hgd ⟨ud, hd, rfl, ud0, ud1, -, hhd, rfl⟩
                  conv => whnf
                  refine OAnd.mk ⟨rfl, rfl, rfl, rfl, rfl, rfl, trivial⟩ ?_
                  conv => whnf
                  intro bt
                  conv => whnf
                  refine OAnd.mk ⟨rfl, rfl, rfl, rfl, rfl, rfl, trivial⟩ ?_
                  conv => whnf
                  conv => whnf
                  refine OAnd.mk ⟨rfl, rfl, rfl, rfl, rfl, rfl, trivial⟩ ?_
                  conv => whnf
                  exact ⟨(hd, ⟨IntKind.i64.wrap (1 + ua), 0, 0, 0, ud, 0, if ub = 0 then ⟨#[97]⟩ else ⟨#[98]⟩, r1, ⟨#[113]⟩⟩, _), [0, 1, 2, 3, 5, 7], Sub.of (by decide) rfl ⟨rfl, rfl, rfl, rfl, rfl, rfl, rfl, rfl, rfl, trivial⟩, hhd, rfl, by simp only; rw [e9 ua ua0 ua1]; omega, hne ub⟩
                · skip
                  conv => whnf
                  intro bt
                  conv => whnf
                  refine OAnd.mk ⟨rfl, rfl, rfl, rfl, rfl, rfl, trivial⟩ ?_
                  conv => whnf
                  refine OOK.call [0] rfl rfl rfl (by kernel_rfl) rfl (hand_n gb hB hb2 (IntKind.i64.wrap (now5 + 9)) hhb2 (by rw [en9]; omega) (by rw [en9]; omega)) (by decide) rfl ?_
                  rintro v_ gd m_ hgd ⟨ud, hd, rfl, ud0, ud1, -, hhd, rfl⟩
                  conv => whnf
                  refine OAnd.mk ⟨rfl, rfl, rfl, rfl, rfl, rfl, trivial⟩ ?_
                  conv => whnf
                  conv => whnf
                  refine OAnd.mk ⟨rfl, rfl, rfl, rfl, rfl, rfl, trivial⟩ ?_
                  conv => whnf
                  exact ⟨(hd, ⟨IntKind.i64.wrap (1 + ua), 0, 0, 0, ud, 0, if ub = 0 then ⟨#[97]⟩ else ⟨#[98]⟩, r1, ⟨#[113]⟩⟩, _), [0, 1, 2, 3, 5, 7], Sub.of (by decide) rfl ⟨rfl, rfl, rfl, rfl, rfl, rfl, rfl, rfl, rfl, trivial⟩, hhd, rfl, by simp only; rw [e9 ua ua0 ua1]; omega, hne ub⟩
              · skip
                refine OAnd.mk ?_ ?_
                · conv => whnf
                  refine OOK.call [0] rfl rfl rfl (by kernel_rfl) rfl (hand_n gb hB hb2 (IntKind.i64.wrap (now5 + 9)) hhb2 (by rw [en9]; omega) (by rw [en9]; omega)) (by decide) rfl ?_
                  rintro v_ gd m_ hgd ⟨ud, hd, rfl, ud0, ud1, -, hhd, rfl⟩
                  conv => whnf
                  refine OAnd.mk ⟨rfl, rfl, rfl, rfl, rfl, rfl, trivial⟩ ?_
                  conv => whnf
                  refine OAnd.mk ?_ ?_
                  · conv => whnf
                    refine OOK.yn (YN.loadOwn 6 rfl rfl rfl rfl (hab ub ub0 ub1) ?_)
                    conv => whnf
                    refine OAnd.mk ⟨rfl, rfl, rfl, rfl, rfl, rfl, trivial⟩ ?_
                    conv => whnf
                    intro bt
                    conv => whnf
                    refine OAnd.mk ⟨rfl, rfl, rfl, rfl, rfl, rfl, trivial⟩ ?_
                    conv => whnf
                    conv => whnf
                    refine OAnd.mk ⟨rfl, rfl, rfl, rfl, rfl, rfl, trivial⟩ ?_
                    conv => whnf
                    exact ⟨(hd, ⟨IntKind.i64.wrap (1 + ua), 0, 0, 0, ud, 0, if ub = 0 then ⟨#[97]⟩ else ⟨#[98]⟩, r1, ⟨#[113]⟩⟩, _), [0, 1, 2, 3, 5, 7], Sub.of (by decide) rfl ⟨rfl, rfl, rfl, rfl, rfl, rfl, rfl, rfl, rfl, trivial⟩, hhd, rfl, by simp only; rw [e9 ua ua0 ua1]; omega, hne ub⟩
                  · skip
                    conv => whnf
                    intro bt
                    conv => whnf
                    refine OAnd.mk ⟨rfl, rfl, rfl, rfl, rfl, rfl, trivial⟩ ?_
                    conv => whnf
                    refine OOK.yn (YN.loadOwn 6 rfl rfl rfl rfl (hab ub ub0 ub1) ?_)
                    conv => whnf
                    refine OAnd.mk ⟨rfl, rfl, rfl, rfl, rfl, rfl, trivial⟩ ?_
                    conv => whnf
                    conv => whnf
                    refine OAnd.mk ⟨rfl, rfl, rfl, rfl, rfl, rfl, trivial⟩ ?_
                    conv => whnf
                    exact ⟨(hd, ⟨IntKind.i64.wrap (1 + ua), 0, 0, 0, ud, 0, if ub = 0 then ⟨#[97]⟩ else ⟨#[98]⟩, r1, ⟨#[113]⟩⟩, _), [0, 1, 2, 3, 5, 7], Sub.of (by decide) rfl ⟨rfl, rfl, rfl, rfl, rfl, rfl, rfl, rfl, rfl, trivial⟩, hhd, rfl, by simp only; rw [e9 ua ua0 ua1]; omega, hne ub⟩
                · skip
                  conv => whnf
                  intro bt
                  conv => whnf
                  refine OAnd.mk ⟨rfl, rfl, rfl, rfl, rfl, rfl, trivial⟩ ?_
                  conv => whnf
                  refine OAnd.mk ?_ ?_
                  · conv => whnf
                    refine OOK.yn (YN.loadOwn 6 rfl rfl rfl rfl (hab ub ub0 ub1) ?_)
                    conv => whnf
                    refine OAnd.mk ⟨rfl, rfl, rfl, rfl, rfl, rfl, trivial⟩ ?_
                    conv => whnf
                    refine OOK.call [0] rfl rfl rfl (by kernel_rfl) rfl (hand_n gb hB hb2 (IntKind.i64.wrap (now5 + 9)) hhb2 (by rw [en9]; omega) (by rw [en9]; omega)) (by decide) rfl ?_
                    rintro v_ gd m_ hgd ⟨ud, hd, rfl, ud0, ud1, -, hhd, rfl⟩
                    conv => whnf
                    refine OAnd.mk ⟨rfl, rfl, rfl, rfl, rfl, rfl, trivial⟩ ?_
                    conv => whnf
                    conv => whnf
                    refine OAnd.mk ⟨rfl, rfl, rfl, rfl, rfl, rfl, trivial⟩ ?_
                    conv => whnf
                    exact ⟨(hd, ⟨IntKind.i64.wrap (1 + ua), 0, 0, 0, ud, 0, if ub = 0 then ⟨#[97]⟩ else ⟨#[98]⟩, r1, ⟨#[113]⟩⟩, _), [0, 1, 2, 3, 5, 7], Sub.of (by decide) rfl ⟨rfl, rfl, rfl, rfl, rfl, rfl, rfl, rfl, rfl, trivial⟩, hhd, rfl, by simp only; rw [e9 ua ua0 ua1]; omega, hne ub⟩
                  · skip
                    conv => whnf
                    refine OOK.call [0] rfl rfl rfl (by kernel_rfl) rfl (hand_n gb hB hb2 (IntKind.i64.wrap (now5 + 9)) hhb2 (by rw [en9]; omega) (by rw [en9]; omega)) (by decide) rfl ?_
                    rintro v_ gd m_ hgd ⟨ud, hd, rfl, ud0, ud1, -, hhd, rfl⟩
                    conv => whnf
                    refine OAnd.mk ⟨rfl, rfl, rfl, rfl, rfl, rfl, trivial⟩ ?_
                    conv => whnf
                    refine OOK.yn (YN.loadOwn 6 rfl rfl rfl rfl (hab ub ub0 ub1) ?_)
                    conv => whnf
                    refine OAnd.mk ⟨rfl, rfl, rfl, rfl, rfl, rfl, trivial⟩ ?_
                    conv => whnf
                    conv => whnf
                    refine OAnd.mk ⟨rfl, rfl, rfl, rfl, rfl, rfl, trivial⟩ ?_
                    conv => whnf
                    exact ⟨(hd, ⟨IntKind.i64.wrap (1 + ua), 0, 0, 0, ud, 0, if ub = 0 then ⟨#[97]⟩ else ⟨#[98]⟩, r1, ⟨#[113]⟩⟩, _), [0, 1, 2, 3, 5, 7], Sub.of (by decide) rfl ⟨rfl, rfl, rfl, rfl, rfl, rfl, rfl, rfl, rfl, trivial⟩, hhd, rfl, by simp only; rw [e9 ua ua0 ua1]; omega, hne ub⟩
            · skip
              conv => whnf
              intro bt
              conv => whnf
              refine OAnd.mk ⟨rfl, rfl, rfl, rfl, rfl, rfl, trivial⟩ ?_
              conv => whnf
              refine OOK.call [0] rfl rfl rfl (by kernel_rfl) rfl (hand_n ga hB ha 2 hha (by omega) (by omega)) (by decide) rfl ?_
              rintro v_ gb m_ hgb ⟨ub, hb2, rfl, ub0, ub1, -, hhb2, rfl⟩
              conv => whnf
              refine OAnd.mk ⟨rfl, rfl, rfl, rfl, rfl, rfl, trivial⟩ ?_
              conv => whnf
              refine ONeed.mk ⟨by omega, by omega⟩ ?_
              conv => whnf
              refine OAnd.mk ?_ ?_
              · conv => whnf
                refine OOK.yn (YN.loadOwn 6 rfl rfl rfl rfl (hab ub ub0 ub1) ?_)
                conv => whnf
                refine OAnd.mk ⟨rfl, rfl, rfl, rfl, rfl, rfl, trivial⟩ ?_
                conv => whnf
                refine OOK.call [0] rfl rfl rfl (by kernel_rfl) rfl (hand_n gb hB hb2 (IntKind.i64.wrap (now5 + 9)) hhb2 (by rw [en9]; omega) (by rw [en9]; omega)) (by decide) rfl ?_
                rintro v_ gd m_ hgd ⟨ud, hd, rfl, ud0, ud1, -, hhd, rfl⟩
                conv => whnf
                refine OAnd.mk ⟨rfl, rfl, rfl, rfl, rfl, rfl, trivial⟩ ?_
                conv => whnf
                conv => whnf
                refine OAnd.mk ⟨rfl, rfl, rfl, rfl, rfl, rfl, trivial⟩ ?_
                conv => whnf
                exact ⟨(hd, ⟨IntKind.i64.wrap (1 + ua), 0, 0, 0, ud, 0, if ub = 0 then ⟨#[97]⟩ else ⟨#[98]⟩, r1, ⟨#[113]⟩⟩, _), [0, 1, 2, 3, 5, 7], Sub.of (by decide) rfl ⟨rfl, rfl, rfl, rfl, rfl, rfl, rfl, rfl, rfl, trivial⟩, hhd, rfl, by simp only; rw [e9 ua ua0 ua1]; omega, hne ub⟩
              · skip
                conv => whnf
                refine OOK.call [0] rfl rfl rfl (by kernel_rfl) rfl (hand_n gb hB hb2 (IntKind.i64.wrap (now5 + 9)) hhb2 (by rw [en9]; omega) (by rw [en9]; omega)) (by decide) rfl ?_
                rintro v_ gd m_ hgd ⟨ud, hd, rfl, ud0, ud1, -, hhd, rfl⟩
                conv => whnf
                refine OAnd.mk ⟨rfl, rfl, rfl, rfl, rfl, rfl, trivial⟩ ?_
                conv => whnf
                refine OOK.yn (YN.loadOwn 6 rfl rfl rfl rfl (hab ub ub0 ub1) ?_)
                conv => whnf
                refine OAnd.mk ⟨rfl, rfl, rfl, rfl, rfl, rfl, trivial⟩ ?_
                conv => whnf
                conv => whnf
                refine OAnd.mk ⟨rfl, rfl, rfl, rfl, rfl, rfl, trivial⟩ ?_
                conv => whnf
                exact ⟨(hd, ⟨IntKind.i64.wrap (1 + ua), 0, 0, 0, ud, 0, if ub = 0 then ⟨#[97]⟩ else ⟨#[98]⟩, r1, ⟨#[113]⟩⟩, _), [0, 1, 2, 3, 5, 7], Sub.of (by decide) rfl ⟨rfl, rfl, rfl, rfl, rfl, rfl, rfl, rfl, rfl, trivial⟩, hhd, rfl, by simp only; rw [e9 ua ua0 ua1]; omega, hne ub⟩
          · skip
            refine OAnd.mk ?_ ?_
            · conv => whnf
              refine OOK.call [0] rfl rfl rfl (by kernel_rfl) rfl (hand_n ga hB ha 2 hha (by omega) (by omega)) (by decide) rfl ?_
              rintro v_ gb m_ hgb ⟨ub, hb2, rfl, ub0, ub1, -, hhb2, rfl⟩
              conv => whnf
              refine OAnd.mk ⟨rfl, rfl, rfl, rfl, rfl, rfl, trivial⟩ ?_
              conv => whnf
              refine OAnd.mk ?_ ?_
              · conv => whnf
                intro bs
                conv => whnf
                refine OAnd.mk ⟨rfl, rfl, rfl, rfl, rfl, rfl, trivial⟩ ?_
                conv => whnf
                refine ONeed.mk ⟨by omega, by omega⟩ ?_
                conv => whnf
                refine OAnd.mk ?_ ?_
                · conv => whnf
                  refine OOK.yn (YN.loadOwn 6 rfl rfl rfl rfl (hab ub ub0 ub1) ?_)
                  conv => whnf
                  refine OAnd.mk ⟨rfl, rfl, rfl, rfl, rfl, rfl, trivial⟩ ?_
                  conv => whnf
                  refine OAnd.mk ?_ ?_
                  · conv => whnf
                    refine OOK.call [0] rfl rfl rfl (by kernel_rfl) rfl (hand_n gb hB hb2 (IntKind.i64.wrap (now5 + 9)) hhb2 (by rw [en9]; omega) (by rw [en9]; omega)) (by decide) rfl ?_
                    rintro v_ gd m_ hgd ⟨ud, hd, rfl, ud0, ud1, -, hhd, rfl⟩
                    conv => whnf
                    refine OAnd.mk ⟨rfl, rfl, rfl, rfl, rfl, rfl, trivial⟩ ?_
                    conv => whnf
                    intro bt
                    conv => whnf
                    refine OAnd.mk ⟨rfl, rfl, rfl, rfl, rfl, rfl, trivial⟩ ?_
                    conv => whnf
                    conv => whnf
                    refine OAnd.mk ⟨rfl, rfl, rfl, rfl, rfl, rfl, trivial⟩ ?_
                    conv => whnf
                    exact ⟨(hd, ⟨IntKind.i64.wrap (1 + ua), 0, 0, 0, ud, 0, if ub = 0 then ⟨#[97]⟩ else ⟨#[98]⟩, r1, ⟨#[113]⟩⟩, _), [0, 1, 2, 3, 5, 7], Sub.of (by decide) rfl ⟨rfl, rfl, rfl, rfl, rfl, rfl, rfl, rfl, rfl, trivial⟩, hhd, rfl, by simp only; rw [e9 ua ua0 ua1]; omega, hne ub⟩
                  · skip
                    conv => whnf
                    intro bt
                    conv => whnf
                    refine OAnd.mk ⟨rfl, rfl, rfl, rfl, rfl, rfl, trivial⟩ ?_
                    conv => whnf
                    refine OOK.call [0] rfl rfl rfl (by kernel_rfl) rfl (hand_n gb hB hb2 (IntKind.i64.wrap (now5 + 9)) hhb2 (by rw [en9]; omega) (by rw [en9]; omega)) (by decide) rfl ?_
                    rintro v_ gd m_ hgd ⟨ud, hd, rfl, ud0, ud1, -, hhd, rfl⟩
                    conv => whnf
                    refine OAnd.mk ⟨rfl, rfl, rfl, rfl, rfl, rfl, trivial⟩ ?_
                    conv => whnf
                    conv => whnf
                    refine OAnd.mk ⟨rfl, rfl, rfl, rfl, rfl, rfl, trivial⟩ ?_
                    conv => whnf
                    exact ⟨(hd, ⟨IntKind.i64.wrap (1 + ua), 0, 0, 0, ud, 0, if ub = 0 then ⟨#[97]⟩ else ⟨#[98]⟩, r1, ⟨#[113]⟩⟩, _), [0, 1, 2, 3, 5, 7], Sub.of (by decide) rfl ⟨rfl, rfl, rfl, rfl, rfl, rfl, rfl, rfl, rfl, trivial⟩, hhd, rfl, by simp only; rw [e9 ua ua0 ua1]; omega, hne ub⟩
                · skip
                  refine OAnd.mk ?_ ?_
                  · conv => whnf
                    refine OOK.call [0] rfl rfl rfl (by kernel_rfl) rfl (hand_n gb hB hb2 (IntKind.i64.wrap (now5 + 9)) hhb2 (by rw [en9]; omega) (by rw [en9]; omega)) (by decide) rfl ?_
                    rintro v_ gd m_ hgd ⟨ud, hd, rfl, ud0, ud1, -, hhd, rfl⟩
                    conv => whnf
                    refine OAnd.mk ⟨rfl, rfl, rfl, rfl, rfl, rfl, trivial⟩ ?_
                    conv => whnf
                    refine OAnd.mk ?_ ?_
                    · conv => whnf
                      refine OOK.yn (YN.loadOwn 6 rfl rfl rfl rfl (hab ub ub0 ub1) ?_)
                      conv => whnf
                      refine OAnd.mk ⟨rfl, rfl, rfl, rfl, rfl, rfl, trivial⟩ ?_
                      conv => whnf
                      intro bt
                      conv => whnf
                      refine OAnd.mk ⟨rfl, rfl, rfl, rfl, rfl, rfl, trivial⟩ ?_
                      conv => whnf
                      conv => whnf
                      refine OAnd.mk ⟨rfl, rfl, rfl, rfl, rfl, rfl, trivial⟩ ?_
                      conv => whnf
                      exact ⟨(hd, ⟨IntKind.i64.wrap (1 + ua), 0, 0, 0, ud, 0, if ub = 0 then ⟨#[97]⟩ else ⟨#[98]⟩, r1, ⟨#[113]⟩⟩, _), [0, 1, 2, 3, 5, 7], Sub.of (by decide) rfl ⟨rfl, rfl, rfl, rfl, rfl, rfl, rfl, rfl, rfl, trivial⟩, hhd, rfl, by simp only; rw [e9 ua ua0 ua1]; omega, hne ub⟩
                    · skip
                      conv => whnf
                      intro bt
                      conv => whnf
                      refine OAnd.mk ⟨rfl, rfl, rfl, rfl, rfl, rfl, trivial⟩ ?_
                      conv => whnf
                      refine OOK.yn (YN.loadOwn 6 rfl rfl rfl rfl (hab ub ub0 ub1) ?_)
                      conv => whnf
                      refine OAnd.mk ⟨rfl, rfl, rfl, rfl, rfl, rfl, trivial⟩ ?_
                      conv => whnf
                      conv => whnf
                      refine OAnd.mk ⟨rfl, rfl, rfl, rfl, rfl, rfl, trivial⟩ ?_
                      conv => whnf
                      exact ⟨(hd, ⟨IntKind.i64.wrap (1 + ua), 0, 0, 0, ud, 0, if ub = 0 then ⟨#[97]⟩ else ⟨#[98]⟩, r1, ⟨#[113]⟩⟩, _), [0, 1, 2, 3, 5, 7], Sub.of (by decide) rfl ⟨rfl, rfl, rfl, rfl, rfl, rfl, rfl, rfl, rfl, trivial⟩, hhd, rfl, by simp only; rw [e9 ua ua0 ua1]; omega, hne ub⟩
                  · skip
                    conv => whnf
                    intro bt
                    conv => whnf
                    refine OAnd.mk ⟨rfl, rfl, rfl, rfl, rfl, rfl, trivial⟩ ?_
                    conv => whnf
                    refine OAnd.mk ?_ ?_
                    · conv => whnf
                      refine OOK.yn (YN.loadOwn 6 rfl rfl rfl rfl (hab ub ub0 ub1) ?_)
                      conv => whnf
                      refine OAnd.mk ⟨rfl, rfl, rfl, rfl, rfl, rfl, trivial⟩ ?_
                      conv => whnf
                      refine OOK.call [0] rfl rfl rfl (by kernel_rfl) rfl (hand_n gb hB hb2 (IntKind.i64.wrap (now5 + 9)) hhb2 (by rw [en9]; omega) (by rw [en9]; omega)) (by decide) rfl ?_
                      rintro v_ gd m_ hgd ⟨ud, hd, rfl, ud0, ud1, -, hhd, rfl⟩
                      conv => whnf
                      refine OAnd.mk ⟨rfl, rfl, rfl, rfl, rfl, rfl, trivial⟩ ?_
                      conv => whnf
                      conv => whnf
                      refine OAnd.mk ⟨rfl, rfl, rfl, rfl, rfl, rfl, trivial⟩ ?_
                      conv => whnf
                      exact ⟨(hd, ⟨IntKind.i64.wrap (1 + ua), 0, 0, 0, ud, 0, if ub = 0 then ⟨#[97]⟩ else ⟨#[98]⟩, r1, ⟨#[113]⟩⟩, _), [0, 1, 2, 3, 5, 7], Sub.of (by decide) rfl ⟨rfl, rfl, rfl, rfl, rfl, rfl, rfl, rfl, rfl, trivial⟩, hhd, rfl, by simp only; rw [e9 ua ua0 ua1]; omega, hne ub⟩
                    · skip
                      conv => whnf
                      refine OOK.call [0] rfl rfl rfl (by kernel_rfl) rfl (hand_n gb hB hb2 (IntKind.i64.wrap (now5 + 9)) hhb2 (by rw [en9]; omega) (by rw [en9]; omega)) (by decide) rfl ?_
                      rintro v_ gd m_ hgd ⟨ud, hd, rfl, ud0, ud1, -, hhd, rfl⟩
                      conv => whnf
                      refine OAnd.mk ⟨rfl, rfl, rfl, rfl, rfl, rfl, trivial⟩ ?_
                      conv => whnf
                      refine OOK.yn (YN.loadOwn 6 rfl rfl rfl rfl (hab ub ub0 ub1) ?_)
                      conv => whnf
                      refine OAnd.mk ⟨rfl, rfl, rfl, rfl, rfl, rfl, trivial⟩ ?_
                      conv => whnf
                      conv => whnf
                      refine OAnd.mk ⟨rfl, rfl, rfl, rfl, rfl, rfl, trivial⟩ ?_
                      conv => whnf
                      exact ⟨(hd, ⟨IntKind.i64.wrap (1 + ua), 0, 0, 0, ud, 0, if ub = 0 then ⟨#[97]⟩ else ⟨#[98]⟩, r1, ⟨#[113]⟩⟩, _), [0, 1, 2, 3, 5, 7], Sub.of (by decide) rfl ⟨rfl, rfl, rfl, rfl, rfl, rfl, rfl, rfl, rfl, trivial⟩, hhd, rfl, by simp only; rw [e9 ua ua0 ua1]; omega, hne ub⟩
              · skip
                refine OAnd.mk ?_ ?_
                · conv => whnf
                  refine OOK.call [0] rfl rfl rfl (by kernel_rfl) rfl (hand_n gb hB hb2 (IntKind.i64.wrap (now5 + 9)) hhb2 (by rw [en9]; omega) (by rw [en9]; omega)) (by decide) rfl ?_
                  rintro v_ gd m_ hgd ⟨ud, hd, rfl, ud0, ud1, -, hhd, rfl⟩
                  conv => whnf
                  refine OAnd.mk ⟨rfl, rfl, rfl, rfl, rfl, rfl, trivial⟩ ?_
                  conv => whnf
                  refine OAnd.mk ?_ ?_
                  · conv => whnf
                    intro bs
                    conv => whnf
                    refine OAnd.mk ⟨rfl, rfl, rfl, rfl, rfl, rfl, trivial⟩ ?_
                    conv => whnf
                    refine ONeed.mk ⟨by omega, by omega⟩ ?_
                    conv => whnf
                    refine OAnd.mk ?_ ?_
                    · conv => whnf
                      refine OOK.yn (YN.loadOwn 6 rfl rfl rfl rfl (hab ub ub0 ub1) ?_)
                      conv => whnf
                      refine OAnd.mk ⟨rfl, rfl, rfl, rfl, rfl, rfl, trivial⟩ ?_
                      conv => whnf
                      intro bt
                      conv => whnf
                      refine OAnd.mk ⟨rfl, rfl, rfl, rfl, rfl, rfl, trivial⟩ ?_
                      conv => whnf
                      conv => whnf
                      refine OAnd.mk ⟨rfl, rfl, rfl, rfl, rfl, rfl, trivial⟩ ?_
                      conv => whnf
                      exact ⟨(hd, ⟨IntKind.i64.wrap (1 + ua), 0, 0, 0, ud, 0, if ub = 0 then ⟨#[97]⟩ else ⟨#[98]⟩, r1, ⟨#[113]⟩⟩, _), [0, 1, 2, 3, 5, 7], Sub.of (by decide) rfl ⟨rfl, rfl, rfl, rfl, rfl, rfl, rfl, rfl, rfl, trivial⟩, hhd, rfl, by simp only; rw [e9 ua ua0 ua1]; omega, hne ub⟩
                    · skip
                      conv => whnf
                      intro bt
                      conv => whnf
                      refine OAnd.mk ⟨rfl, rfl, rfl, rfl, rfl, rfl, trivial⟩ ?_
                      conv => whnf
                      refine OOK.yn (YN.loadOwn 6 rfl rfl rfl rfl (hab ub ub0 ub1) ?_)
                      conv => whnf
                      refine OAnd.mk ⟨rfl, rfl, rfl, rfl, rfl, rfl, trivial⟩ ?_
                      conv => whnf
                      conv => whnf
                      refine OAnd.mk ⟨rfl, rfl, rfl, rfl, rfl, rfl, trivial⟩ ?_
                      conv => whnf
                      exact ⟨(hd, ⟨IntKind.i64.wrap (1 + ua), 0, 0, 0, ud, 0, if ub = 0 then ⟨#[97]⟩ else ⟨#[98]⟩, r1, ⟨#[113]⟩⟩, _), [0, 1, 2, 3, 5, 7], Sub.of (by decide) rfl ⟨rfl, rfl, rfl, rfl, rfl, rfl, rfl, rfl, rfl, trivial⟩, hhd, rfl, by simp only; rw [e9 ua ua0 ua1]; omega, hne ub⟩
                  · skip
                    conv => whnf
                    intro bt
                    conv => whnf
                    refine OAnd.mk ⟨rfl, rfl, rfl, rfl, rfl, rfl, trivial⟩ ?_
                    conv => whnf
                    intro bs
                    conv => whnf
                    refine OAnd.mk ⟨rfl, rfl, rfl, rfl, rfl, rfl, trivial⟩ ?_
                    conv => whnf
                    refine ONeed.mk ⟨by omega, by omega⟩ ?_
                    conv => whnf
                    refine OOK.yn (YN.loadOwn 7 rfl rfl rfl rfl (hab ub ub0 ub1) ?_)
                    conv => whnf
                    refine OAnd.mk ⟨rfl, rfl, rfl, rfl, rfl, rfl, trivial⟩ ?_
                    conv => whnf
                    conv => whnf
                    refine OAnd.mk ⟨rfl, rfl, rfl, rfl, rfl, rfl, trivial⟩ ?_
                    conv => whnf
                    exact ⟨(hd, ⟨IntKind.i64.wrap (1 + ua), 0, 0, 0, ud, 0, if ub = 0 then ⟨#[97]⟩ else ⟨#[98]⟩, r1, ⟨#[113]⟩⟩, _), [0, 1, 2, 3, 5, 6], Sub.of (by decide) rfl ⟨rfl, rfl, rfl, rfl, rfl, rfl, rfl, rfl, rfl, trivial⟩, hhd, rfl, by simp only; rw [e9 ua ua0 ua1]; omega, hne ub⟩
                · skip
                  conv => whnf
                  intro bt
                  conv => whnf
                  refine OAnd.mk ⟨rfl, rfl, rfl, rfl, rfl, rfl, trivial⟩ ?_
                  conv => whnf
                  refine OAnd.mk ?_ ?_
                  · conv => whnf
                    intro bs
                    conv => whnf
                    refine OAnd.mk ⟨rfl, rfl, rfl, rfl, rfl, rfl, trivial⟩ ?_
                    conv => whnf
                    refine ONeed.mk ⟨by omega, by omega⟩ ?_
                    conv => whnf
                    refine OAnd.mk ?_ ?_
                    · conv => whnf
                      refine OOK.yn (YN.loadOwn 7 rfl rfl rfl rfl (hab ub ub0 ub1) ?_)
                      conv => whnf
                      refine OAnd.mk ⟨rfl, rfl, rfl, rfl, rfl, rfl, trivial⟩ ?_
                      conv => whnf
                      refine OOK.call [0] rfl rfl rfl (by kernel_rfl) rfl (hand_n gb hB hb2 (IntKind.i64.wrap (now5 + 9)) hhb2 (by rw [en9]; omega) (by rw [en9]; omega)) (by decide) rfl ?_
                      rintro v_ gd m_ hgd ⟨ud, hd, rfl, ud0, ud1, -, hhd, rfl⟩
                      conv => whnf
                      refine OAnd.mk ⟨rfl, rfl, rfl, rfl, rfl, rfl, trivial⟩ ?_
                      conv => whnf
                      conv => whnf
                      refine OAnd.mk ⟨rfl, rfl, rfl, rfl, rfl, rfl, trivial⟩ ?_
                      conv => whnf
                      exact ⟨(hd, ⟨IntKind.i64.wrap (1 + ua), 0, 0, 0, ud, 0, if ub = 0 then ⟨#[97]⟩ else ⟨#[98]⟩, r1, ⟨#[113]⟩⟩, _), [0, 1, 2, 3, 5, 6], Sub.of (by decide) rfl ⟨rfl, rfl, rfl, rfl, rfl, rfl, rfl, rfl, rfl, trivial⟩, hhd, rfl, by simp only; rw [e9 ua ua0 ua1]; omega, hne ub⟩
                    · skip
                      conv => whnf
                      refine OOK.call [0] rfl rfl rfl (by kernel_rfl) rfl (hand_n gb hB hb2 (IntKind.i64.wrap (now5 + 9)) hhb2 (by rw [en9]; omega) (by rw [en9]; omega)) (by decide) rfl ?_
                      rintro v_ gd m_ hgd ⟨ud, hd, rfl, ud0, ud1, -, hhd, rfl⟩
                      conv => whnf
                      refine OAnd.mk ⟨rfl, rfl, rfl, rfl, rfl, rfl, trivial⟩ ?_
                      conv => whnf
                      refine OOK.yn (YN.loadOwn 7 rfl rfl rfl rfl (hab ub ub0 ub1) ?_)
                      conv => whnf
                      refine OAnd.mk ⟨rfl, rfl, rfl, rfl, rfl, rfl, trivial⟩ ?_
                      conv => whnf
                      conv => whnf
                      refine OAnd.mk ⟨rfl, rfl, rfl, rfl, rfl, rfl, trivial⟩ ?_
                      conv => whnf
                      exact ⟨(hd, ⟨IntKind.i64.wrap (1 + ua), 0, 0, 0, ud, 0, if ub = 0 then ⟨#[97]⟩ else ⟨#[98]⟩, r1, ⟨#[113]⟩⟩, _), [0, 1, 2, 3, 5, 6], Sub.of (by decide) rfl ⟨rfl, rfl, rfl, rfl, rfl, rfl, rfl, rfl, rfl, trivial⟩, hhd, rfl, by simp only; rw [e9 ua ua0 ua1]; omega, hne ub⟩
                  · skip
                    conv => whnf
                    refine OOK.call [0] rfl rfl rfl (by kernel_rfl) rfl (hand_n gb hB hb2 (IntKind.i64.wrap (now5 + 9)) hhb2 (by rw [en9]; omega) (by rw [en9]; omega)) (by decide) rfl ?_
                    rintro v_ gd m_ hgd ⟨ud, hd, rfl, ud0, ud1, -, hhd, rfl⟩
                    conv => whnf
                    refine OAnd.mk ⟨rfl, rfl, rfl, rfl, rfl, rfl, trivial⟩ ?_
                    conv => whnf
                    intro bs
                    conv => whnf
                    refine OAnd.mk ⟨rfl, rfl, rfl, rfl, rfl, rfl, trivial⟩ ?_
                    conv => whnf
                    refine ONeed.mk ⟨by omega, by omega⟩ ?_
                    conv => whnf
                    refine OOK.yn (YN.loadOwn 7 rfl rfl rfl rfl (hab ub ub0 ub1) ?_)
                    conv => whnf
                    refine OAnd.mk ⟨rfl, rfl, rfl, rfl, rfl, rfl, trivial⟩ ?_
                    conv => whnf
                    conv => whnf
                    refine OAnd.mk ⟨rfl, rfl, rfl, rfl, rfl, rfl, trivial⟩ ?_
                    conv => whnf
                    exact ⟨(hd, ⟨IntKind.i64.wrap (1 + ua), 0, 0, 0, ud, 0, if ub = 0 then ⟨#[97]⟩ else ⟨#[98]⟩, r1, ⟨#[113]⟩⟩, _), [0, 1, 2, 3, 5, 6], Sub.of (by decide) rfl ⟨rfl, rfl, rfl, rfl, rfl, rfl, rfl, rfl, rfl, trivial⟩, hhd, rfl, by simp only; rw [e9 ua ua0 ua1]; omega, hne ub⟩
            · skip
              conv => whnf
              intro bt
              conv => whnf
              refine OAnd.mk ⟨rfl, rfl, rfl, rfl, rfl, rfl, trivial⟩ ?_
              conv => whnf
              refine OAnd.mk ?_ ?_
              · conv => whnf
                intro bs
                conv => whnf
                refine OAnd.mk ⟨rfl, rfl, rfl, rfl, rfl, rfl, trivial⟩ ?_
                conv => whnf
                refine OOK.call [0] rfl rfl rfl (by kernel_rfl) rfl (hand_n ga hB ha 2 hha (by omega) (by omega)) (by decide) rfl ?_
                rintro v_ gb m_ hgb ⟨ub, hb2, rfl, ub0, ub1, -, hhb2, rfl⟩
                conv => whnf
                refine OAnd.mk ⟨rfl, rfl, rfl, rfl, rfl, rfl, trivial⟩ ?_
                conv => whnf
                refine ONeed.mk ⟨by omega, by omega⟩ ?_
                conv => whnf
                refine OAnd.mk ?_ ?_
                · conv => whnf
                  refine OOK.yn (YN.loadOwn 7 rfl rfl rfl rfl (hab ub ub0 ub1) ?_)
                  conv => whnf
                  refine OAnd.mk ⟨rfl, rfl, rfl, rfl, rfl, rfl, trivial⟩ ?_
                  conv => whnf
                  refine OOK.call [0] rfl rfl rfl (by kernel_rfl) rfl (hand_n gb hB hb2 (IntKind.i64.wrap (now5 + 9)) hhb2 (by rw [en9]; omega) (by rw [en9]; omega)) (by decide) rfl ?_
                  rintro v_ gd m_ hgd ⟨ud, hd, rfl, ud0, ud1, -, hhd, rfl⟩
                  conv => whnf
                  refine OAnd.mk ⟨rfl, rfl, rfl, rfl, rfl, rfl, trivial⟩ ?_
                  conv => whnf
                  conv => whnf
                  refine OAnd.mk ⟨rfl, rfl, rfl, rfl, rfl, rfl, trivial⟩ ?_
                  conv => whnf
                  exact ⟨(hd, ⟨IntKind.i64.wrap (1 + ua), 0, 0, 0, ud, 0, if ub = 0 then ⟨#[97]⟩ else ⟨#[98]⟩, r1, ⟨#[113]⟩⟩, _), [0, 1, 2, 3, 5, 6], Sub.of (by decide) rfl ⟨rfl, rfl, rfl, rfl, rfl, rfl, rfl, rfl, rfl, trivial⟩, hhd, rfl, by simp only; rw [e9 ua ua0 ua1]; omega, hne ub⟩
                · skip
                  conv => whnf
                  refine OOK.call [0] rfl rfl rfl (by kernel_rfl) rfl (hand_n gb hB hb2 (IntKind.i64.wrap (now5 + 9)) hhb2 (by rw [en9]; omega) (by rw [en9]; omega)) (by decide) rfl ?_
                  rintro v_ gd m_ hgd ⟨ud, hd, rfl, ud0, ud1, -, hhd, rfl⟩
                  conv => whnf
                  refine OAnd.mk ⟨rfl, rfl, rfl, rfl, rfl, rfl, trivial⟩ ?_
                  conv => whnf
                  refine OOK.yn (YN.loadOwn 7 rfl rfl rfl rfl (hab ub ub0 ub1) ?_)
                  conv => whnf
                  refine OAnd.mk ⟨rfl, rfl, rfl, rfl, rfl, rfl, trivial⟩ ?_
                  conv => whnf
                  conv => whnf
                  refine OAnd.mk ⟨rfl, rfl, rfl, rfl, rfl, rfl, trivial⟩ ?_
                  conv => whnf
                  exact ⟨(hd, ⟨IntKind.i64.wrap (1 + ua), 0, 0, 0, ud, 0, if ub = 0 then ⟨#[97]⟩ else ⟨#[98]⟩, r1, ⟨#[113]⟩⟩, _), [0, 1, 2, 3, 5, 6], Sub.of (by decide) rfl ⟨rfl, rfl, rfl, rfl, rfl, rfl, rfl, rfl, rfl, trivial⟩, hhd, rfl, by simp only; rw [e9 ua ua0 ua1]; omega, hne ub⟩
              · skip
                conv => whnf
                refine OOK.call [0] rfl rfl rfl (by kernel_rfl) rfl (hand_n ga hB ha 2 hha (by omega) (by omega)) (by decide) rfl ?_
                rintro v_ gb m_ hgb ⟨ub, hb2, rfl, ub0, ub1, -, hhb2, rfl⟩
                conv => whnf
                refine OAnd.mk ⟨rfl, rfl, rfl, rfl, rfl, rfl, trivial⟩ ?_
                conv => whnf
                refine OAnd.mk ?_ ?_
                · conv => whnf
                  intro bs
                  conv => whnf
                  refine OAnd.mk ⟨rfl, rfl, rfl, rfl, rfl, rfl, trivial⟩ ?_
                  conv => whnf
                  refine ONeed.mk ⟨by omega, by omega⟩ ?_
                  conv => whnf
                  refine OAnd.mk ?_ ?_
                  · conv => whnf
                    refine OOK.yn (YN.loadOwn 7 rfl rfl rfl rfl (hab ub ub0 ub1) ?_)
                    conv => whnf
                    refine OAnd.mk ⟨rfl, rfl, rfl, rfl, rfl, rfl, trivial⟩ ?_
                    conv => whnf
                    refine OOK.call [0] rfl rfl rfl (by kernel_rfl) rfl (hand_n gb hB hb2 (IntKind.i64.wrap (now5 + 9)) hhb2 (by rw [en9]; omega) (by rw [en9]; omega)) (by decide) rfl ?_
                    rintro v_ gd m_ hgd ⟨ud, hd, rfl, ud0, ud1, -, hhd, rfl⟩
                    conv => whnf
                    refine OAnd.mk ⟨rfl, rfl, rfl, rfl, rfl, rfl, trivial⟩ ?_
                    conv => whnf
                    conv => whnf
                    refine OAnd.mk ⟨rfl, rfl, rfl, rfl, rfl, rfl, trivial⟩ ?_
                    conv => whnf
                    exact ⟨(hd, ⟨IntKind.i64.wrap (1 + ua), 0, 0, 0, ud, 0, if ub = 0 then ⟨#[97]⟩ else ⟨#[98]⟩, r1, ⟨#[113]⟩⟩, _), [0, 1, 2, 3, 5, 6], Sub.of (by decide) rfl ⟨rfl, rfl, rfl, rfl, rfl, rfl, rfl, rfl, rfl, trivial⟩, hhd, rfl, by simp only; rw [e9 ua ua0 ua1]; omega, hne ub⟩
                  · skip
                    conv => whnf
                    refine OOK.call [0] rfl rfl rfl (by kernel_rfl) rfl (hand_n gb hB hb2 (IntKind.i64.wrap (now5 + 9)) hhb2 (by rw [en9]; omega) (by rw [en9]; omega)) (by decide) rfl ?_
                    rintro v_ gd m_ hgd ⟨ud, hd, rfl, ud0, ud1, -, hhd, rfl⟩
                    conv => whnf
                    refine OAnd.mk ⟨rfl, rfl, rfl, rfl, rfl, rfl, trivial⟩ ?_
                    conv => whnf
                    refine OOK.yn (YN.loadOwn 7 rfl rfl rfl rfl (hab ub ub0 ub1) ?_)
                    conv => whnf
                    refine OAnd.mk ⟨rfl, rfl, rfl, rfl, rfl, rfl, trivial⟩ ?_
                    conv => whnf
                    conv => whnf
                    refine OAnd.mk ⟨rfl, rfl, rfl, rfl, rfl, rfl, trivial⟩ ?_
                    conv => whnf
                    exact ⟨(hd, ⟨IntKind.i64.wrap (1 + ua), 0, 0, 0, ud, 0, if ub = 0 then ⟨#[97]⟩ else ⟨#[98]⟩, r1, ⟨#[113]⟩⟩, _), [0, 1, 2, 3, 5, 6], Sub.of (by decide) rfl ⟨rfl, rfl, rfl, rfl, rfl, rfl, rfl, rfl, rfl, trivial⟩, hhd, rfl, by simp only; rw [e9 ua ua0 ua1]; omega, hne ub⟩
                · skip
                  conv => whnf
                  refine OOK.call [0] rfl rfl rfl (by kernel_rfl) rfl (hand_n gb hB hb2 (IntKind.i64.wrap (now5 + 9)) hhb2 (by rw [en9]; omega) (by rw [en9]; omega)) (by decide) rfl ?_
                  rintro v_ gd m_ hgd ⟨ud, hd, rfl, ud0, ud1, -, hhd, rfl⟩
                  conv => whnf
                  refine OAnd.mk ⟨rfl, rfl, rfl, rfl, rfl, rfl, trivial⟩ ?_
                  conv => whnf
                  intro bs
                  conv => whnf
                  refine OAnd.mk ⟨rfl, rfl, rfl, rfl, rfl, rfl, trivial⟩ ?_
                  conv => whnf
                  refine ONeed.mk ⟨by omega, by omega⟩ ?_
                  conv => whnf
                  refine OOK.yn (YN.loadOwn 7 rfl rfl rfl rfl (hab ub ub0 ub1) ?_)
                  conv => whnf
                  refine OAnd.mk ⟨rfl, rfl, rfl, rfl, rfl, rfl, trivial⟩ ?_
                  conv => whnf
                  conv => whnf
                  refine OAnd.mk ⟨rfl, rfl, rfl, rfl, rfl, rfl, trivial⟩ ?_
                  conv => whnf
                  exact ⟨(hd, ⟨IntKind.i64.wrap (1 + ua), 0, 0, 0, ud, 0, if ub = 0 then ⟨#[97]⟩ else ⟨#[98]⟩, r1, ⟨#[113]⟩⟩, _), [0, 1, 2, 3, 5, 6], Sub.of (by decide) rfl ⟨rfl, rfl, rfl, rfl, rfl, rfl, rfl, rfl, rfl, trivial⟩, hhd, rfl, by simp only; rw [e9 ua ua0 ua1]; omega, hne ub⟩
        · skip
          refine OAnd.mk ?_ ?_
          · conv => whnf
            intro bs
            conv => whnf
            refine OAnd.mk ⟨rfl, rfl, rfl, rfl, rfl, rfl, trivial⟩ ?_
            conv => whnf
            refine OAnd.mk ?_ ?_
            · conv => whnf
              refine OOK.call [0] rfl rfl rfl (by kernel_rfl) rfl (hand_n g12 hB h11 9 hh12 (by omega) (by omega)) (by decide) rfl ?_
              rintro v_ ga m_ hga ⟨ua, ha, rfl, ua0, ua1, -, hha, rfl⟩
              conv => whnf
              refine OAnd.mk ⟨rfl, rfl, rfl, rfl, rfl, rfl, trivial⟩ ?_
              conv => whnf
              refine OAnd.mk ?_ ?_
              · conv => whnf
                refine OOK.call [0] rfl rfl rfl (by kernel_rfl) rfl (hand_n ga hB ha 2 hha (by omega) (by omega)) (by decide) rfl ?_
                rintro v_ gb m_ hgb ⟨ub, hb2, rfl, ub0, ub1, -, hhb2, rfl⟩
                conv => whnf
                refine OAnd.mk ⟨rfl, rfl, rfl, rfl, rfl, rfl, trivial⟩ ?_
                conv => whnf
                refine ONeed.mk ⟨by omega, by omega⟩ ?_
                conv => whnf
                refine OAnd.mk ?_ ?_
                · conv => whnf
                  refine OOK.yn (YN.loadOwn 6 rfl rfl rfl rfl (hab ub ub0 ub1) ?_)
                  conv => whnf
                  refine OAnd.mk ⟨rfl, rfl, rfl, rfl, rfl, rfl, trivial⟩ ?_
                  conv => whnf
                  refine OAnd.mk ?_ ?_
                  · conv => whnf
                    refine OOK.call [0] rfl rfl rfl (by kernel_rfl) rfl (hand_n gb hB hb2 (IntKind.i64.wrap (now5 + 9)) hhb2 (by rw [en9]; omega) (by rw [en9]; omega)) (by decide) rfl ?_
                    rintro v_ gd m_ hgd ⟨ud, hd, rfl, ud0, ud1, -, hhd, rfl⟩
                    conv => whnf
                    refine OAnd.mk ⟨rfl, rfl, rfl, rfl, rfl, rfl, trivial⟩ ?_
                    conv => whnf
                    intro bt
                    conv => whnf
                    refine OAnd.mk ⟨rfl, rfl, rfl, rfl, rfl, rfl, trivial⟩ ?_
                    conv => whnf
                    conv => whnf
                    refine OAnd.mk ⟨rfl, rfl, rfl, rfl, rfl, rfl, trivial⟩ ?_
                    conv => whnf
                    exact ⟨(hd, ⟨IntKind.i64.wrap (1 + ua), 0, 0, 0, ud, 0, if ub = 0 then ⟨#[97]⟩ else ⟨#[98]⟩, r1, ⟨#[113]⟩⟩, _), [0, 1, 2, 3, 5, 7], Sub.of (by decide) rfl ⟨rfl, rfl, rfl, rfl, rfl, rfl, rfl, rfl, rfl, trivial⟩, hhd, rfl, by simp only; rw [e9 ua ua0 ua1]; omega, hne ub⟩
                  · skip
                    conv => whnf
                    intro bt
                    conv => whnf
                    refine OAnd.mk ⟨rfl, rfl, rfl, rfl, rfl, rfl, trivial⟩ ?_
                    conv => whnf
                    refine OOK.call [0] rfl rfl rfl (by kernel_rfl) rfl (hand_n gb hB hb2 (IntKind.i64.wrap (now5 + 9)) hhb2 (by rw [en9]; omega) (by rw [en9]; omega)) (by decide) rfl ?_
                    rintro v_ gd m_ hgd ⟨ud, hd, rfl, ud0, ud1, -, hhd, rfl⟩
                    conv => whnf
                    refine OAnd.mk ⟨rfl, rfl, rfl, rfl, rfl, rfl, trivial⟩ ?_
                    conv => whnf
                    conv => whnf
                    refine OAnd.mk ⟨rfl, rfl, rfl, rfl, rfl, rfl, trivial⟩ ?_
                    conv => whnf
                    exact ⟨(hd, ⟨IntKind.i64.wrap (1 + ua), 0, 0, 0, ud, 0, if ub = 0 then ⟨#[97]⟩ else ⟨#[98]⟩, r1, ⟨#[113]⟩⟩, _), [0, 1, 2, 3, 5, 7], Sub.of (by decide) rfl ⟨rfl, rfl, rfl, rfl, rfl, rfl, rfl, rfl, rfl, trivial⟩, hhd, rfl, by simp only; rw [e9 ua ua0 ua1]; omega, hne ub⟩
                · skip
                  refine OAnd.mk ?_ ?_
                  · conv => whnf
                    refine OOK.call [0] rfl rfl rfl (by kernel_rfl) rfl (hand_n gb hB hb2 (IntKind.i64.wrap (now5 + 9)) hhb2 (by rw [en9]; omega) (by rw [en9]; omega)) (by decide) rfl ?_
                    rintro v_ gd m_ hgd ⟨ud, hd, rfl, ud0, ud1, -, hhd, rfl⟩
                    conv => whnf
                    refine OAnd.mk ⟨rfl, rfl, rfl, rfl, rfl, rfl, trivial⟩ ?_
                    conv => whnf
                    refine OAnd.mk ?_ ?_
                    · conv => whnf
                      refine OOK.yn (YN.loadOwn 6 rfl rfl rfl rfl (hab ub ub0 ub1) ?_)
                      conv => whnf
                      refine OAnd.mk ⟨rfl, rfl, rfl, rfl, rfl, rfl, trivial⟩ ?_
                      conv => whnf
                      intro bt
                      conv => whnf
                      refine OAnd.mk ⟨rfl, rfl, rfl, rfl, rfl, rfl, trivial⟩ ?_
                      conv => whnf
                      conv => whnf
                      refine OAnd.mk ⟨rfl, rfl, rfl, rfl, rfl, rfl, trivial⟩ ?_
                      conv => whnf
                      exact ⟨(hd, ⟨IntKind.i64.wrap (1 + ua), 0, 0, 0, ud, 0, if ub = 0 then ⟨#[97]⟩ else ⟨#[98]⟩, r1, ⟨#[113]⟩⟩, _), [0, 1, 2, 3, 5, 7], Sub.of (by decide) rfl ⟨rfl, rfl, rfl, rfl, rfl, rfl, rfl, rfl, rfl, trivial⟩, hhd, rfl, by simp only; rw [e9 ua ua0 ua1]; omega, hne ub⟩
                    · skip
                      conv => whnf
                      intro bt
                      conv => whnf
                      refine OAnd.mk ⟨rfl, rfl, rfl, rfl, rfl, rfl, trivial⟩ ?_
                      conv => whnf
                      refine OOK.yn (YN.loadOwn 6 rfl rfl rfl rfl (hab ub ub0 ub1) ?_)
                      conv => whnf
                      refine OAnd.mk ⟨rfl, rfl, rfl, rfl, rfl, rfl, trivial⟩ ?_
                      conv => whnf
                      conv => whnf
                      refine OAnd.mk ⟨rfl, rfl, rfl, rfl, rfl, rfl, trivial⟩ ?_
                      conv => whnf
                      exact ⟨(hd, ⟨IntKind.i64.wrap (1 + ua), 0, 0, 0, ud, 0, if ub = 0 then ⟨#[97]⟩ else ⟨#[98]⟩, r1, ⟨#[113]⟩⟩, _), [0, 1, 2, 3, 5, 7], Sub.of (by decide) rfl ⟨rfl, rfl, rfl, rfl, rfl, rfl, rfl, rfl, rfl, trivial⟩, hhd, rfl, by simp only; rw [e9 ua ua0 ua1]; omega, hne ub⟩
                  · skip
                    conv => whnf
                    intro bt
                    conv => whnf
                    refine OAnd.mk ⟨rfl, rfl, rfl, rfl, rfl, rfl, trivial⟩ ?_
                    conv => whnf
                    refine OAnd.mk ?_ ?_
                    · conv => whnf
                      refine OOK.yn (YN.loadOwn 6 rfl rfl rfl rfl (hab ub ub0 ub1) ?_)
                      conv => whnf
                      refine OAnd.mk ⟨rfl, rfl, rfl, rfl, rfl, rfl, trivial⟩ ?_
                      conv => whnf
                      refine OOK.call [0] rfl rfl rfl (by kernel_rfl) rfl (hand_n gb hB hb2 (IntKind.i64.wrap (now5 + 9)) hhb2 (by rw [en9]; omega) (by rw [en9]; omega)) (by decide) rfl ?_
                      rintro v_ gd m_ hgd ⟨ud, hd, rfl, ud0, ud1, -, hhd, rfl⟩
                      conv => whnf
                      refine OAnd.mk ⟨rfl, rfl, rfl, rfl, rfl, rfl, trivial⟩ ?_
                      conv => whnf
                      conv => whnf
                      refine OAnd.mk ⟨rfl, rfl, rfl, rfl, rfl, rfl, trivial⟩ ?_
                      conv => whnf
                      exact ⟨(hd, ⟨IntKind.i64.wrap (1 + ua), 0, 0, 0, ud, 0, if ub = 0 then ⟨#[97]⟩ else ⟨#[98]⟩, r1, ⟨#[113]⟩⟩, _), [0, 1, 2, 3, 5, 7], Sub.of (by decide) rfl ⟨rfl, rfl, rfl, rfl, rfl, rfl, rfl, rfl, rfl, trivial⟩, hhd, rfl, by simp only; rw [e9 ua ua0 ua1]; omega, hne ub⟩
                    · skip
                      conv => whnf
                      refine OOK.call [0] rfl rfl rfl (by kernel_rfl) rfl (hand_n gb hB hb2 (IntKind.i64.wrap (now5 + 9)) hhb2 (by rw [en9]; omega) (by rw [en9]; omega)) (by decide) rfl ?_
                      rintro v_ gd m_ hgd ⟨ud, hd, rfl, ud0, ud1, -, hhd, rfl⟩
                      conv => whnf
                      refine OAnd.mk ⟨rfl, rfl, rfl, rfl, rfl, rfl, trivial⟩ ?_
                      conv => whnf
                      refine OOK.yn (YN.loadOwn 6 rfl rfl rfl rfl (hab ub ub0 ub1) ?_)
                      conv => whnf
                      refine OAnd.mk ⟨rfl, rfl, rfl, rfl, rfl, rfl, trivial⟩ ?_
                      conv => whnf
                      conv => whnf
                      refine OAnd.mk ⟨rfl, rfl, rfl, rfl, rfl, rfl, trivial⟩ ?_
                      conv => whnf
                      exact ⟨(hd, ⟨IntKind.i64.wrap (1 + ua), 0, 0, 0, ud, 0, if ub = 0 then ⟨#[97]⟩ else ⟨#[98]⟩, r1, ⟨#[113]⟩⟩, _), [0, 1, 2, 3, 5, 7], Sub.of (by decide) rfl ⟨rfl, rfl, rfl, rfl, rfl, rfl, rfl, rfl, rfl, trivial⟩, hhd, rfl, by simp only; rw [e9 ua ua0 ua1]; omega, hne ub⟩
              · skip
                conv => whnf
                intro bt
                conv => whnf
                refine OAnd.mk ⟨rfl, rfl, rfl, rfl, rfl, rfl, trivial⟩ ?_
                conv => whnf
                refine OOK.call [0] rfl rfl rfl (by kernel_rfl) rfl (hand_n ga hB ha 2 hha (by omega) (by omega)) (by decide) rfl ?_
                rintro v_ gb m_ hgb ⟨ub, hb2, rfl, ub0, ub1, -, hhb2, rfl⟩
                conv => whnf
                refine OAnd.mk ⟨rfl, rfl, rfl, rfl, rfl, rfl, trivial⟩ ?_
                conv => whnf
                refine ONeed.mk ⟨by omega, by omega⟩ ?_
                conv => whnf
                refine OAnd.mk ?_ ?_
                · conv => whnf
                  refine OOK.yn (YN.loadOwn 6 rfl rfl rfl rfl (hab ub ub0 ub1) ?_)
                  conv => whnf
                  refine OAnd.mk ⟨rfl, rfl, rfl, rfl, rfl, rfl, trivial⟩ ?_
                  conv => whnf
                  refine OOK.call [0] rfl rfl rfl (by kernel_rfl) rfl (hand_n gb hB hb2 (IntKind.i64.wrap (now5 + 9)) hhb2 (by rw [en9]; omega) (by rw [en9]; omega)) (by decide) rfl ?_
                  rintro v_ gd m_ hgd ⟨ud, hd, rfl, ud0, ud1, -, hhd, rfl⟩
                  conv => whnf
                  refine OAnd.mk ⟨rfl, rfl, rfl, rfl, rfl, rfl, trivial⟩ ?_
                  conv => whnf
                  conv => whnf
                  refine OAnd.mk ⟨rfl, rfl, rfl, rfl, rfl, rfl, trivial⟩ ?_
                  conv => whnf
                  exact ⟨(hd, ⟨IntKind.i64.wrap (1 + ua), 0, 0, 0, ud, 0, if ub = 0 then ⟨#[97]⟩ else ⟨#[98]⟩, r1, ⟨#[113]⟩⟩, _), [0, 1, 2, 3, 5, 7], Sub.of (by decide) rfl ⟨rfl, rfl, rfl, rfl, rfl, rfl, rfl, rfl, rfl, trivial⟩, hhd, rfl, by simp only; rw [e9 ua ua0 ua1]; omega, hne ub⟩
                · skip
                  conv => whnf
                  refine OOK.call [0] rfl rfl rfl (by kernel_rfl) rfl (hand_n gb hB hb2 (IntKind.i64.wrap (now5 + 9)) hhb2 (by rw [en9]; omega) (by rw [en9]; omega)) (by decide) rfl ?_
                  rintro v_ gd m_ hgd ⟨ud, hd, rfl, ud0, ud1, -, hhd, rfl⟩
                  conv => whnf
                  refine OAnd.mk ⟨rfl, rfl, rfl, rfl, rfl, rfl, trivial⟩ ?_
                  conv => whnf
                  refine OOK.yn (YN.loadOwn 6 rfl rfl rfl rfl (hab ub ub0 ub1) ?_)
                  conv => whnf
                  refine OAnd.mk ⟨rfl, rfl, rfl, rfl, rfl, rfl, trivial⟩ ?_
                  conv => whnf
                  conv => whnf
                  refine OAnd.mk ⟨rfl, rfl, rfl, rfl, rfl, rfl, trivial⟩ ?_
                  conv => whnf
                  exact ⟨(hd, ⟨IntKind.i64.wrap (1 + ua), 0, 0, 0, ud, 0, if ub = 0 then ⟨#[97]⟩ else ⟨#[98]⟩, r1, ⟨#[113]⟩⟩, _), [0, 1, 2, 3, 5, 7], Sub.of (by decide) rfl ⟨rfl, rfl, rfl, rfl, rfl, rfl, rfl, rfl, rfl, trivial⟩, hhd, rfl, by simp only; rw [e9 ua ua0 ua1]; omega, hne ub⟩
            · skip
              conv => whnf
              intro bt
              conv => whnf
              refine OAnd.mk ⟨rfl, rfl, rfl, rfl, rfl, rfl, trivial⟩ ?_
              conv => whnf
              refine OOK.call [0] rfl rfl rfl (by kernel_rfl) rfl (hand_n g12 hB h11 9 hh12 (by omega) (by omega)) (by decide) rfl ?_
              rintro v_ ga m_ hga ⟨ua, ha, rfl, ua0, ua1, -, hha, rfl⟩
              conv => whnf
              refine OAnd.mk ⟨rfl, rfl, rfl, rfl, rfl, rfl, trivial⟩ ?_
              conv => whnf
              refine OOK.call [0] rfl rfl rfl (by kernel_rfl) rfl (hand_n ga hB ha 2 hha (by omega) (by omega)) (by decide) rfl ?_
              rintro v_ gb m_ hgb ⟨ub, hb2, rfl, ub0, ub1, -, hhb2, rfl⟩
              conv => whnf
              refine OAnd.mk ⟨rfl, rfl, rfl, rfl, rfl, rfl, trivial⟩ ?_
              conv => whnf
              refine ONeed.mk ⟨by omega, by omega⟩ ?_
              conv => whnf
              refine OAnd.mk ?_ ?_
              · conv => whnf
                refine OOK.yn (YN.loadOwn 6 rfl rfl rfl rfl (hab ub ub0 ub1) ?_)
                conv => whnf
                refine OAnd.mk ⟨rfl, rfl, rfl, rfl, rfl, rfl, trivial⟩ ?_
                conv => whnf
                refine OOK.call [0] rfl rfl rfl (by kernel_rfl) rfl (hand_n gb hB hb2 (IntKind.i64.wrap (now5 + 9)) hhb2 (by rw [en9]; omega) (by rw [en9]; omega)) (by decide) rfl ?_
                rintro v_ gd m_ hgd ⟨ud, hd, rfl, ud0, ud1, -, hhd, rfl⟩
                conv => whnf
                refine OAnd.mk ⟨rfl, rfl, rfl, rfl, rfl, rfl, trivial⟩ ?_
                conv => whnf
                conv => whnf
                refine OAnd.mk ⟨rfl, rfl, rfl, rfl, rfl, rfl, trivial⟩ ?_
                conv => whnf
                exact ⟨(hd, ⟨IntKind.i64.wrap (1 + ua), 0, 0, 0, ud, 0, if ub = 0 then ⟨#[97]⟩ else ⟨#[98]⟩, r1, ⟨#[113]⟩⟩, _), [0, 1, 2, 3, 5, 7], Sub.of (by decide) rfl ⟨rfl, rfl, rfl, rfl, rfl, rfl, rfl, rfl, rfl, trivial⟩, hhd, rfl, by simp only; rw [e9 ua ua0 ua1]; omega, hne ub⟩
              · skip
                conv => whnf
                refine OOK.call [0] rfl rfl rfl (by kernel_rfl) rfl (hand_n gb hB hb2 (IntKind.i64.wrap (now5 + 9)) hhb2 (by rw [en9]; omega) (by rw [en9]; omega)) (by decide) rfl ?_
                rintro v_ gd m_ hgd ⟨ud, hd, rfl, ud0, ud1, -, hhd, rfl⟩
                conv => whnf
                refine OAnd.mk ⟨rfl, rfl, rfl, rfl, rfl, rfl, trivial⟩ ?_
                conv => whnf
                refine OOK.yn (YN.loadOwn 6 rfl rfl rfl rfl (hab ub ub0 ub1) ?_)
                conv => whnf
                refine OAnd.mk ⟨rfl, rfl, rfl, rfl, rfl, rfl, trivial⟩ ?_
                conv => whnf
                conv => whnf
                refine OAnd.mk ⟨rfl, rfl, rfl, rfl, rfl, rfl, trivial⟩ ?_
                conv => whnf
                exact ⟨(hd, ⟨IntKind.i64.wrap (1 + ua), 0, 0, 0, ud, 0, if ub = 0 then ⟨#[97]⟩ else ⟨#[98]⟩, r1, ⟨#[113]⟩⟩, _), [0, 1, 2, 3, 5, 7], Sub.of (by decide) rfl ⟨rfl, rfl, rfl, rfl, rfl, rfl, rfl, rfl, rfl, trivial⟩, hhd, rfl, by simp only; rw [e9 ua ua0 ua1]; omega, hne ub⟩
          · skip
            conv => whnf
            intro bt
            conv => whnf
            refine OAnd.mk ⟨rfl, rfl, rfl, rfl, rfl, rfl, trivial⟩ ?_
            conv => whnf
            refine OAnd.mk ?_ ?_
            · conv => whnf
              refine OOK.call [0] rfl rfl rfl (by kernel_rfl) rfl (hand_n g12 hB h11 9 hh12 (by omega) (by omega)) (by decide) rfl ?_
              rintro v_ ga m_ hga ⟨ua, ha, rfl, ua0, ua1, -, hha, rfl⟩
              conv => whnf
              refine OAnd.mk ⟨rfl, rfl, rfl, rfl, rfl, rfl, trivial⟩ ?_
              conv => whnf
              refine OAnd.mk ?_ ?_
              · conv => whnf
                intro bs
                conv => whnf
                refine OAnd.mk ⟨rfl, rfl, rfl, rfl, rfl, rfl, trivial⟩ ?_
                conv => whnf
                refine OOK.call [0] rfl rfl rfl (by kernel_rfl) rfl (hand_n ga hB ha 2 hha (by omega) (by omega)) (by decide) rfl ?_
                rintro v_ gb m_ hgb ⟨ub, hb2, rfl, ub0, ub1, -, hhb2, rfl⟩
                conv => whnf
                refine OAnd.mk ⟨rfl, rfl, rfl, rfl, rfl, rfl, trivial⟩ ?_
                conv => whnf
                refine ONeed.mk ⟨by omega, by omega⟩ ?_
                conv => whnf
                refine OAnd.mk ?_ ?_
                · conv => whnf
                  refine OOK.yn (YN.loadOwn 7 rfl rfl rfl rfl (hab ub ub0 ub1) ?_)
                  conv => whnf
                  refine OAnd.mk ⟨rfl, rfl, rfl, rfl, rfl, rfl, trivial⟩ ?_
                  conv => whnf
                  refine OOK.call [0] rfl rfl rfl (by kernel_rfl) rfl (hand_n gb hB hb2 (IntKind.i64.wrap (now5 + 9)) hhb2 (by rw [en9]; omega) (by rw [en9]; omega)) (by decide) rfl ?_
                  rintro v_ gd m_ hgd ⟨ud, hd, rfl, ud0, ud1, -, hhd, rfl⟩
                  conv => whnf
                  refine OAnd.mk ⟨rfl, rfl, rfl, rfl, rfl, rfl, trivial⟩ ?_
                  conv => whnf
                  conv => whnf
                  refine OAnd.mk ⟨rfl, rfl, rfl, rfl, rfl, rfl, trivial⟩ ?_
                  conv => whnf
                  exact ⟨(hd, ⟨IntKind.i64.wrap (1 + ua), 0, 0, 0, ud, 0, if ub = 0 then ⟨#[97]⟩ else ⟨#[98]⟩, r1, ⟨#[113]⟩⟩, _), [0, 1, 2, 3, 5, 6], Sub.of (by decide) rfl ⟨rfl, rfl, rfl, rfl, rfl, rfl, rfl, rfl, rfl, trivial⟩, hhd, rfl, by simp only; rw [e9 ua ua0 ua1]; omega, hne ub⟩
                · skip
                  conv => whnf
                  refine OOK.call [0] rfl rfl rfl (by kernel_rfl) rfl (hand_n gb hB hb2 (IntKind.i64.wrap (now5 + 9)) hhb2 (by rw [en9]; omega) (by rw [en9]; omega)) (by decide) rfl ?_
                  rintro v_ gd m_ hgd ⟨ud, hd, rfl, ud0, ud1, -, hhd, rfl⟩
                  conv => whnf
                  refine OAnd.mk ⟨rfl, rfl, rfl, rfl, rfl, rfl, trivial⟩ ?_
                  conv => whnf
                  refine OOK.yn (YN.loadOwn 7 rfl rfl rfl rfl (hab ub ub0 ub1) ?_)
                  conv => whnf
                  refine OAnd.mk ⟨rfl, rfl, rfl, rfl, rfl, rfl, trivial⟩ ?_
                  conv => whnf
                  conv => whnf
                  refine OAnd.mk ⟨rfl, rfl, rfl, rfl, rfl, rfl, trivial⟩ ?_
                  conv => whnf
                  exact ⟨(hd, ⟨IntKind.i64.wrap (1 + ua), 0, 0, 0, ud, 0, if ub = 0 then ⟨#[97]⟩ else ⟨#[98]⟩, r1, ⟨#[113]⟩⟩, _), [0, 1, 2, 3, 5, 6], Sub.of (by decide) rfl ⟨rfl, rfl, rfl, rfl, rfl, rfl, rfl, rfl, rfl, trivial⟩, hhd, rfl, by simp only; rw [e9 ua ua0 ua1]; omega, hne ub⟩
              · skip
                conv => whnf
                refine OOK.call [0] rfl rfl rfl (by kernel_rfl) rfl (hand_n ga hB ha 2 hha (by omega) (by omega)) (by decide) rfl ?_
                rintro v_ gb m_ hgb ⟨ub, hb2, rfl, ub0, ub1, -, hhb2, rfl⟩
                conv => whnf
                refine OAnd.mk ⟨rfl, rfl, rfl, rfl, rfl, rfl, trivial⟩ ?_
                conv => whnf
                refine OAnd.mk ?_ ?_
                · conv => whnf
                  intro bs
                  conv => whnf
                  refine OAnd.mk ⟨rfl, rfl, rfl, rfl, rfl, rfl, trivial⟩ ?_
                  conv => whnf
                  refine ONeed.mk ⟨by omega, by omega⟩ ?_
                  conv => whnf
                  refine OAnd.mk ?_ ?_
                  · conv => whnf
                    refine OOK.yn (YN.loadOwn 7 rfl rfl rfl rfl (hab ub ub0 ub1) ?_)
                    conv => whnf
                    refine OAnd.mk ⟨rfl, rfl, rfl, rfl, rfl, rfl, trivial⟩ ?_
                    conv => whnf
                    refine OOK.call [0] rfl rfl rfl (by kernel_rfl) rfl (hand_n gb hB hb2 (IntKind.i64.wrap (now5 + 9)) hhb2 (by rw [en9]; omega) (by rw [en9]; omega)) (by decide) rfl ?_
                    rintro v_ gd m_ hgd ⟨ud, hd, rfl, ud0, ud1, -, hhd, rfl⟩
                    conv => whnf
                    refine OAnd.mk ⟨rfl, rfl, rfl, rfl, rfl, rfl, trivial⟩ ?_
                    conv => whnf
                    conv => whnf
                    refine OAnd.mk ⟨rfl, rfl, rfl, rfl, rfl, rfl, trivial⟩ ?_
                    conv => whnf
                    exact ⟨(hd, ⟨IntKind.i64.wrap (1 + ua), 0, 0, 0, ud, 0, if ub = 0 then ⟨#[97]⟩ else ⟨#[98]⟩, r1, ⟨#[113]⟩⟩, _), [0, 1, 2, 3, 5, 6], Sub.of (by decide) rfl ⟨rfl, rfl, rfl, rfl, rfl, rfl, rfl, rfl, rfl, trivial⟩, hhd, rfl, by simp only; rw [e9 ua ua0 ua1]; omega, hne ub⟩
                  · skip
                    conv => whnf
                    refine OOK.call [0] rfl rfl rfl (by kernel_rfl) rfl (hand_n gb hB hb2 (IntKind.i64.wrap (now5 + 9)) hhb2 (by rw [en9]; omega) (by rw [en9]; omega)) (by decide) rfl ?_
                    rintro v_ gd m_ hgd ⟨ud, hd, rfl, ud0, ud1, -, hhd, rfl⟩
                    conv => whnf
                    refine OAnd.mk ⟨rfl, rfl, rfl, rfl, rfl, rfl, trivial⟩ ?_
                    conv => whnf
                    refine OOK.yn (YN.loadOwn 7 rfl rfl rfl rfl (hab ub ub0 ub1) ?_)
                    conv => whnf
                    refine OAnd.mk ⟨rfl, rfl, rfl, rfl, rfl, rfl, trivial⟩ ?_
                    conv => whnf
                    conv => whnf
                    refine OAnd.mk ⟨rfl, rfl, rfl, rfl, rfl, rfl, trivial⟩ ?_
                    conv => whnf
                    exact ⟨(hd, ⟨IntKind.i64.wrap (1 + ua), 0, 0, 0, ud, 0, if ub = 0 then ⟨#[97]⟩ else ⟨#[98]⟩, r1, ⟨#[113]⟩⟩, _), [0, 1, 2, 3, 5, 6], Sub.of (by decide) rfl ⟨rfl, rfl, rfl, rfl, rfl, rfl, rfl, rfl, rfl, trivial⟩, hhd, rfl, by simp only; rw [e9 ua ua0 ua1]; omega, hne ub⟩
                · skip
                  conv => whnf
                  refine OOK.call [0] rfl rfl rfl (by kernel_rfl) rfl (hand_n gb hB hb2 (IntKind.i64.wrap (now5 + 9)) hhb2 (by rw [en9]; omega) (by rw [en9]; omega)) (by decide) rfl ?_
                  rintro v_ gd m_ hgd ⟨ud, hd, rfl, ud0, ud1, -, hhd, rfl⟩
                  conv => whnf
                  refine OAnd.mk ⟨rfl, rfl, rfl, rfl, rfl, rfl, trivial⟩ ?_
                  conv => whnf
                  intro bs
                  conv => whnf
                  refine OAnd.mk ⟨rfl, rfl, rfl, rfl, rfl, rfl, trivial⟩ ?_
                  conv => whnf
                  refine ONeed.mk ⟨by omega, by omega⟩ ?_
                  conv => whnf
                  refine OOK.yn (YN.loadOwn 7 rfl rfl rfl rfl (hab ub ub0 ub1) ?_)
                  conv => whnf
                  refine OAnd.mk ⟨rfl, rfl, rfl, rfl, rfl, rfl, trivial⟩ ?_
                  conv => whnf
                  conv => whnf
                  refine OAnd.mk ⟨rfl, rfl, rfl, rfl, rfl, rfl, trivial⟩ ?_
                  conv => whnf
                  exact ⟨(hd, ⟨IntKind.i64.wrap (1 + ua), 0, 0, 0, ud, 0, if ub = 0 then ⟨#[97]⟩ else ⟨#[98]⟩, r1, ⟨#[113]⟩⟩, _), [0, 1, 2, 3, 5, 6], Sub.of (by decide) rfl ⟨rfl, rfl, rfl, rfl, rfl, rfl, rfl, rfl, rfl, trivial⟩, hhd, rfl, by simp only; rw [e9 ua ua0 ua1]; omega, hne ub⟩
            · skip
              conv => whnf
              intro bs
              conv => whnf
              refine OAnd.mk ⟨rfl, rfl, rfl, rfl, rfl, rfl, trivial⟩ ?_
              conv => whnf
              refine OOK.call [0] rfl rfl rfl (by kernel_rfl) rfl (hand_n g12 hB h11 9 hh12 (by omega) (by omega)) (by decide) rfl ?_
              rintro v_ ga m_ hga ⟨ua, ha, rfl, ua0, ua1, -, hha, rfl⟩
              conv => whnf
              refine OAnd.mk ⟨rfl, rfl, rfl, rfl, rfl, rfl, trivial⟩ ?_
              conv => whnf
              refine OOK.call [0] rfl rfl rfl (by kernel_rfl) rfl (hand_n ga hB ha 2 hha (by omega) (by omega)) (by decide) rfl ?_
              rintro v_ gb m_ hgb ⟨ub, hb2, rfl, ub0, ub1, -, hhb2, rfl⟩
              conv => whnf
              refine OAnd.mk ⟨rfl, rfl, rfl, rfl, rfl, rfl, trivial⟩ ?_
              conv => whnf
              refine ONeed.mk ⟨by omega, by omega⟩ ?_
              conv => whnf
              refine OAnd.mk ?_ ?_
              · conv => whnf
                refine OOK.yn (YN.loadOwn 7 rfl rfl rfl rfl (hab ub ub0 ub1) ?_)
                conv => whnf
                refine OAnd.mk ⟨rfl, rfl, rfl, rfl, rfl, rfl, trivial⟩ ?_
                conv => whnf
                refine OOK.call [0] rfl rfl rfl (by kernel_rfl) rfl (hand_n gb hB hb2 (IntKind.i64.wrap (now5 + 9)) hhb2 (by rw [en9]; omega) (by rw [en9]; omega)) (by decide) rfl ?_
                rintro v_ gd m_ hgd ⟨ud, hd, rfl, ud0, ud1, -, hhd, rfl⟩
                conv => whnf
                refine OAnd.mk ⟨rfl, rfl, rfl, rfl, rfl, rfl, trivial⟩ ?_
                conv => whnf
                conv => whnf
                refine OAnd.mk ⟨rfl, rfl, rfl, rfl, rfl, rfl, trivial⟩ ?_
                conv => whnf
                exact ⟨(hd, ⟨IntKind.i64.wrap (1 + ua), 0, 0, 0, ud, 0, if ub = 0 then ⟨#[97]⟩ else ⟨#[98]⟩, r1, ⟨#[113]⟩⟩, _), [0, 1, 2, 3, 5, 6], Sub.of (by decide) rfl ⟨rfl, rfl, rfl, rfl, rfl, rfl, rfl, rfl, rfl, trivial⟩, hhd, rfl, by simp only; rw [e9 ua ua0 ua1]; omega, hne ub⟩
              · skip
                conv => whnf
                refine OOK.call [0] rfl rfl rfl (by kernel_rfl) rfl (hand_n gb hB hb2 (IntKind.i64.wrap (now5 + 9)) hhb2 (by rw [en9]; omega) (by rw [en9]; omega)) (by decide) rfl ?_
                rintro v_ gd m_ hgd ⟨ud, hd, rfl, ud0, ud1, -, hhd, rfl⟩
                conv => whnf
                refine OAnd.mk ⟨rfl, rfl, rfl, rfl, rfl, rfl, trivial⟩ ?_
                conv => whnf
                refine OOK.yn (YN.loadOwn 7 rfl rfl rfl rfl (hab ub ub0 ub1) ?_)
                conv => whnf
                refine OAnd.mk ⟨rfl, rfl, rfl, rfl, rfl, rfl, trivial⟩ ?_
                conv => whnf
                conv => whnf
                refine OAnd.mk ⟨rfl, rfl, rfl, rfl, rfl, rfl, trivial⟩ ?_
                conv => whnf
                exact ⟨(hd, ⟨IntKind.i64.wrap (1 + ua), 0, 0, 0, ud, 0, if ub = 0 then ⟨#[97]⟩ else ⟨#[98]⟩, r1, ⟨#[113]⟩⟩, _), [0, 1, 2, 3, 5, 6], Sub.of (by decide) rfl ⟨rfl, rfl, rfl, rfl, rfl, rfl, rfl, rfl, rfl, trivial⟩, hhd, rfl, by simp only; rw [e9 ua ua0 ua1]; omega, hne ub⟩
      rintro ⟨h17, t, kb⟩ g17 hg17 ⟨hh17, ht1, ht2, ht3⟩
      simp only at ht1 ht2 ht3
      dsimp only
      conv => whnf
      have hg17' : g3.le g17 := ((hg10'.trans hg11).trans hg12).trans hg17
      have hsame := any_same hits ht1
      refine vcC_ok _ _ _ _ _ ?_
      conv => whnf
      refine OOK.call [5, 3] rfl rfl rfl (by kernel_rfl) rfl (f_contains Own.enc Own.len g17 [taskBox kb t, sl] B d (l.map Item.own) _ _ (sameTask t) (hown.in_ 1 rfl) (by omega) (by kernel_rfl) fun g' hg x hx => Tri.sub [0] (by decide) rfl (c_same g' kb t x)) (by decide) rfl ?_
      rintro v_ g18 m_ hg18 ⟨rfl, rfl⟩
      rw [hsame]
      by_cases hany : l.any (keyEq t) = true
      · rw [hany]
        conv => whnf
        refine ⟨(by intro q; cases q), fun _ => ?_⟩
        conv => whnf
        refine OOK.call [] rfl rfl rfl (by kernel_rfl) rfl (f_add g18 A c l qt t (hrow.mono (hg17'.trans hg18)) (by omega) ht3 (by rw [ht1]; unfold r1 noStr; intro q; cases q) ht2) (by decide) rfl ?_
        rintro v_ g19 m_ hg19 ⟨rfl, hv⟩
        rcases hv with ⟨_, A', c', rfl, hr⟩ | ⟨hno, _⟩
        · conv => whnf
          exact ⟨⟨h17, l, A', c', qt, 0, A', l.length, c', qt, sl, B, d⟩, [0, 1, 2, 4, 3], Sub.of (by decide) rfl ⟨rfl, rfl, rfl, rfl, rfl, rfl, rfl, rfl, rfl, rfl, rfl, trivial⟩,
            ⟨hh17.mono (hg18.trans hg19), hr, hown, by simp only; omega, hq0, by simp only; omega, fun y hy => (hits y hy).mono (by omega), .inl ⟨rfl, rfl, rfl, rfl, rfl⟩⟩⟩
        · rw [hany] at hno; cases hno
      · have hany' : l.any (keyEq t) = false := by simpa using hany
        rw [hany']
        conv => whnf
        refine ⟨fun _ => ?_, (by intro q; cases q)⟩
        conv => whnf
        intro b3
        conv => whnf
        refine OOK.appendRow (Item.fresh t).own 3 Own.len rfl rfl rfl rfl (.inl ⟨_, rfl⟩) rfl (size := 12) (bytes := 120) rfl rfl rfl (by decide) rfl rfl hown
          (Src.own (i := 6) (q := 0) (cs := (Item.fresh t).own.enc) (t := 34) (fr := (0, 0)) rfl rfl (fun j v hj => by simpa using hj)) (Own.one _) (by omega) ?_
        intro d' s' B' e' hO'
        conv => whnf
        refine OOK.call [] rfl rfl rfl (by kernel_rfl) rfl (f_add g18 A c l qt t (hrow.mono (hg17'.trans hg18)) (by omega) ht3 (by rw [ht1]; unfold r1 noStr; intro q; cases q) ht2) (by decide) rfl ?_
        rintro v_ g19 m_ hg19 ⟨rfl, hv⟩
        rcases hv with ⟨hno, _⟩ | ⟨_, A', c', rfl, hr⟩
        · rw [hany'] at hno; cases hno
        · conv => whnf
          refine ⟨⟨h17, l ++ [Item.fresh t], A', c', qt, 0, A', (l ++ [Item.fresh t]).length, c', qt, s', B', e'⟩, [0, 1, 2, 4, 7], Sub.of (by decide) rfl ⟨rfl, rfl, ?_, rfl, rfl, rfl, rfl, rfl, rfl, rfl, rfl, trivial⟩,
            ⟨hh17.mono (hg18.trans hg19), hr, ?_, by simp; omega, hq0, by simp only; omega, ok_fresh (fun y hy => (hits y hy).mono (by omega)) ht1 (by omega), .inl ⟨rfl, rfl, rfl, rfl, rfl⟩⟩⟩
          · show Value.slice _ _ _ = Value.slice _ _ _
            simp
          · simp only [List.map_append]
            exact hO'
    · have h2u : 2 ≤ u11 := by
        rcases h62 with h | h
        · rw [h] at q; cases q
        · exact h
      have hh12 : h11.ok g12 := hh11.mono hg12
      refine COK.seq (COK.cut (α := Bool) (fun x => [(3, .own 0 0), (4, .own 1 0), (5, .val (.slice B (l.map Item.own).length d)), (6, .own 2 0), (7, .val (.int .i64 qt)), (8, .val (.int .i64 ttl)), (9, .own 4 0), (10, .val (.int .i64 at_)), (11, .val (.bool live)), (12, .val (.int .i64 want)), (14, .own 5 0), (15, .val (.bool true)), (28, .val (.int .i64 N)), (29, .val (.int .i64 i)), (61, .val (.int .i64 u11)), (98, .val (.bool x))])
        (fun _ => [h11.slot hB, qBox qb A l.length c qt, intBox nb now5, sl, intBox tb tok, qBox xb A l.length c qt]) (fun x _ => x = true ∨ 4 ≤ u11) ?_ ?_)
      · refine vcC_ok _ _ _ _ _ ?_
        conv => whnf
        refine ⟨fun q => ?_, fun q => ?_⟩
        · conv => whnf
          exact ⟨_, [0, 1, 2, 3, 4, 5], Sub.of (by decide) rfl ⟨rfl, rfl, rfl, rfl, rfl, rfl, rfl, rfl, rfl, rfl, rfl, rfl, rfl, rfl, rfl, rfl, trivial⟩, .inl q⟩
        · conv => whnf
          exact ⟨_, [0, 1, 2, 3, 4, 5], Sub.of (by decide) rfl ⟨rfl, rfl, rfl, rfl, rfl, rfl, rfl, rfl, rfl, rfl, rfl, rfl, rfl, rfl, rfl, rfl, trivial⟩, by
            by_cases h1 : u11 = 3
            · exact .inl (by simp [h1])
            · exact .inr (by have : u11 ≠ 2 := by simpa using q
                             omega)⟩
      intro x98 g18 hg18 h98
      conv => whnf
      refine COK.cond rfl (fun q => ?_) (fun q => ?_)
      · have hholder : (⟨#[119]⟩ ++ dig ttl : ByteArray) ≠ noStr := fun q => by
          have h1 : (⟨#[119]⟩ ++ dig ttl : ByteArray).size = 1 + (dig ttl).size := ByteArray.size_append
          rw [q] at h1
          have h2 : noStr.size = 0 := rfl
          omega
        obtain ⟨wn, hwn⟩ : ∃ w : ByteArray, w = ⟨#[119]⟩ ++ dig ttl := ⟨_, rfl⟩
        rw [← hwn] at hholder
        have hdig : (dig ttl).size ≤ 36 := by
          unfold dig
          rw [ByteArray.size_extract]
          exact Nat.le_trans (Nat.sub_le _ _) (Nat.min_le_right _ _)
        refine COK.seq (vcC_ok _ _ _ _ _ ?_)
        conv => whnf
        have hg18' : g3.le g18 := ((hg10'.trans hg11).trans hg12).trans hg18
        refine OOK.call [2, 3] rfl rfl rfl (by kernel_rfl) rfl (indexTask Own.enc Own.len g18 [intBox nb now5, sl] B d (l.map Item.own) _ _ (freeOwn now5) (hown.in_ 1 rfl) (by omega) (by kernel_rfl) fun g' hg x hx => Tri.sub [0] (by decide) rfl (c_free g' nb now5 x)) (by decide) rfl ?_
        rintro v_ g19 m_ hg19 ⟨rfl, hv⟩
        rw [find_free hits (by omega)] at hv
        rcases hv with ⟨k, hk, rfl⟩ | ⟨hk, rfl⟩
        · have hkl := findIdx_lt hk
          obtain ⟨y, hy⟩ : ∃ y, l[k]? = some y := ⟨_, List.getElem?_eq_getElem hkl⟩
          obtain ⟨b, rest, rfl, rfl, hc1, hc2, hcell⟩ := hgot k y hy
          have hyo := hits y (List.mem_of_getElem? hy)
          have hyt0 := hyo.t0
          have hyt1 := hyo.t1
          have w1 : IntKind.i64.wrap (now5 + ttl) = now5 + ttl := i64_in (by omega) (by omega)
          have w2 : IntKind.i64.wrap (qt + 1) = qt + 1 := i64_in (by omega) (by omega)
          have w3 : IntKind.i64.wrap (y.tries + 1) = y.tries + 1 := i64_in (by omega) (by omega)
          have hxo : (l.map Item.own)[k]? = some y.own := by simp [hy]
          have hkl' : k < (l.map Item.own).length := by omega
          conv => whnf
          refine COK.seq (vcC_ok _ _ _ _ _ ?_)
          conv => whnf
          refine ⟨fun _ => ?_, fun q => absurd (of_decide_eq_false q) (by omega)⟩
          conv => whnf
          refine ⟨⟨by omega, by omega⟩, ?_⟩
          conv => whnf
          refine OOK.storeElt Own.len (k := k) (j := 9) (l := l.map Item.own) 3 (⟨y.t, now5 + ttl, y.token, y.tries⟩ : Own) rfl rfl (v := .int .i64 (now5 + ttl)) (by show some (Value.int .i64 (IntKind.i64.wrap (now5 + ttl))) = _; rw [w1]) rfl rfl rfl rfl hxo rfl (Nat.le_of_ble_eq_true rfl) ?_
          conv => whnf
          refine ⟨⟨by omega, by omega⟩, ?_⟩
          conv => whnf
          refine OOK.storeElt Own.len (k := k) (j := 10) (l := (l.map Item.own).set k ⟨y.t, now5 + ttl, y.token, y.tries⟩) 3 (⟨y.t, now5 + ttl, qt + 1, y.tries⟩ : Own) rfl rfl (v := .int .i64 (qt + 1)) (by show some (Value.int .i64 (IntKind.i64.wrap (qt + 1))) = _; rw [w2]) rfl rfl rfl rfl (List.getElem?_set_self hkl') rfl (Nat.le_of_ble_eq_true rfl) ?_
          rw [List.set_set]
          conv => whnf
          refine ⟨⟨by omega, by omega⟩, ?_⟩
          conv => whnf
          have hgot2 : ∀ (y' : Own) (j : Nat) (v : Value), y'.enc[j]? = some v → (((l.map Item.own).set k y').flatMap Own.enc ++ rest)[0 + k * 12 + j]? = some v := fun y' j v hv => by
            have h1 := flat_get Own.len ((l.map Item.own).set k y') k j y' v (List.getElem?_set_self hkl') hv
            rw [Nat.zero_add, List.getElem?_append_left (List.getElem?_eq_some_iff.1 h1).1]; exact h1
          refine OOK.yn (YN.loadOwn (b := b) (q := 0 + k * 12 + 11) (v := .int .i64 y.tries) 3 rfl rfl rfl rfl (hgot2 _ 11 _ rfl) ?_)
          conv => whnf
          refine ⟨⟨by omega, by omega⟩, ?_⟩
          conv => whnf
          refine OOK.storeElt Own.len (k := k) (j := 11) (l := (l.map Item.own).set k ⟨y.t, now5 + ttl, qt + 1, y.tries⟩) 3 (⟨y.t, now5 + ttl, qt + 1, y.tries + 1⟩ : Own) rfl rfl (v := .int .i64 (y.tries + 1)) (by show some (Value.int .i64 (IntKind.i64.wrap (y.tries + 1))) = _; rw [w3]) rfl rfl rfl rfl (List.getElem?_set_self hkl') rfl (Nat.le_of_ble_eq_true rfl) ?_
          rw [List.set_set]
          conv => whnf
          refine COK.seq (vcC_ok _ _ _ _ _ ?_)
          conv => whnf
          refine COK.seq (vcC_ok _ _ _ _ _ ?_)
          conv => whnf
          intro gb
          conv => whnf
          refine COK.seq (vcC_ok _ _ _ _ _ ?_)
          conv => whnf
          refine COK.seq (COK.cut (α := Option Addr × Nat) (fun x => [(3, .own 0 0), (4, .own 1 0), (5, .val (.slice (some ⟨b, 0, none⟩) (l.map Item.own).length d)), (6, .own 2 0), (7, .val (.int .i64 (IntKind.i64.wrap (qt + 1)))), (8, .val (.int .i64 ttl)), (10, .val (.int .i64 k)), (12, .val (.int .i64 0)), (13, .val (.int .i64 0)), (14, .own 4 0), (19, .own 5 0), (20, .val (.bool true)), (28, .val (.int .i64 N)), (29, .val (.int .i64 i))])
            (fun x => [h11.slot hB, qBox qb A l.length c qt, intBox nb now5, ⟨b, .cells (((l.map Item.own).set k ⟨y.t, now5 + ttl, qt + 1, y.tries + 1⟩).flatMap Own.enc ++ rest) 34 (0, 0)⟩, qBox xb x.1 (l.set k (y.lease wn (qt + 1) (now5 + ttl) (y.tries + 1))).length x.2 (qt + 1), ⟨gb, .cells (y.lease wn (qt + 1) (now5 + ttl) (y.tries + 1)).enc 42 (0, 0)⟩])
            (fun x g => Row g Item.enc x.1 (l.set k (y.lease wn (qt + 1) (now5 + ttl) (y.tries + 1)))) ?_ ?_)
          · refine COK.draw [1, 2] (by kernel_rfl) (by kernel_rfl) ?_
            conv => whnf
            refine OOK.call [] rfl rfl rfl (by kernel_rfl) rfl (f_itoa g19 ttl (by omega) (by omega)) (by decide) rfl ?_
            rintro v_ g20 m_ hg20 ⟨rfl, rfl⟩
            conv => whnf
            refine ⟨⟨rfl, rfl, rfl, rfl, rfl, rfl, rfl, trivial⟩, ?_⟩
            conv => whnf
            refine ⟨by rw [show (⟨#[119]⟩ : ByteArray).size = 1 from rfl]; omega, ?_⟩
            conv => whnf
            rw [← hwn]
            refine OOK.call [] rfl rfl rfl (by kernel_rfl) rfl (f_poll g20 A c l qt now5 ttl wn (hrow.mono ((hg18'.trans hg19).trans hg20)) (by omega) hholder (by omega) (by omega) (by omega) (by omega) hq0 (by omega) (fun x hx => ⟨(hits x hx).t0, by have := (hits x hx).t1; omega⟩)) (by decide) rfl ?_
            rintro v_ g21 m_ hg21 ⟨rfl, hv⟩
            rcases hv with ⟨k', x', A', c', hk', hx', rfl, hr⟩ | ⟨hno, _⟩
            · obtain rfl : k = k' := Option.some.inj (hk.symm.trans hk')
              obtain rfl : y = x' := Option.some.inj (hy.symm.trans hx')
              conv => whnf
              refine ⟨⟨rfl, rfl, rfl, rfl, rfl, rfl, rfl, trivial⟩, ?_⟩
              conv => whnf
              refine ⟨⟨rfl, rfl, rfl, rfl, rfl, rfl, rfl, trivial⟩, ?_⟩
              conv => whnf
              refine ⟨⟨rfl, rfl, rfl, rfl, rfl, rfl, rfl, trivial⟩, ?_⟩
              conv => whnf
              exact ⟨(A', c'), [0, 1, 2, 3, 5, 6], Sub.of (by decide) rfl ⟨rfl, rfl, rfl, rfl, rfl, rfl, rfl, rfl, rfl, rfl, rfl, rfl, rfl, rfl, trivial⟩, hr⟩
            · rw [hk] at hno; cases hno
          rintro ⟨A', c'⟩ g20 hg20 hR
          dsimp only
          conv => whnf
          refine COK.seq (vcC_ok _ _ _ _ _ ?_)
          conv => whnf
          have hk0 : decide ((k : Int) ≥ 0) = true := decide_eq_true (by omega)
          rw [hk0]
          refine COK.seq (vcC_ok _ _ _ _ _ ?_)
          conv => whnf
          refine ⟨fun _ => ?_, (by intro q; cases q)⟩
          conv => whnf
          refine COK.cond rfl (fun _ => ?_) (by intro q; cases q)
          refine COK.quiet (by kernel_rfl) (by kernel_rfl) ?_
          conv => whnf
          refine ⟨⟨by omega, by omega⟩, ?_⟩
          conv => whnf
          refine YN.loadsOwn (b := b) (q := 0 + k * 12) (cs := y.t.enc) 3 rfl rfl rfl rfl (fun j v hj => hgot2 _ j v (by
            have h3 := (List.getElem?_eq_some_iff.1 hj).1
            exact (List.getElem?_append_left (l₂ := [.int .i64 (now5 + ttl), .int .i64 (qt + 1), .int .i64 (y.tries + 1)]) h3).trans hj)) ?_
          conv => whnf
          refine YN.eqAgg rfl rfl rfl Tryd.underlying32 Tryd.stoodInHeld32 Tryd.eqGuardType32 (by kernel_rfl) rfl ?_
          conv => whnf
          have hke : ((y.t.id == y.t.id) && ((y.t.kind == y.t.kind) && ((y.t.event == y.t.event) && ((y.t.seq == y.t.seq) && ((y.t.due == y.t.due) && ((y.t.attempt == y.t.attempt) && ((y.t.wf.toList == y.t.wf.toList) && ((y.t.run.toList == y.t.run.toList) && ((y.t.queue.toList == y.t.queue.toList) && true))))))))) = true := by
            rw [bytes_eq, bytes_eq, bytes_eq]; simp
          refine ⟨fun _ => ?_, fun q => absurd (hke.symm.trans q) (by decide)⟩
          conv => whnf
          refine ⟨fun _ => ?_, fun q => absurd q (by rw [w2]; simp [Item.lease])⟩
          conv => whnf
          refine ⟨fun _ => ?_, fun q => absurd q (by rw [w1]; simp [Item.lease])⟩
          conv => whnf
          refine ⟨⟨by omega, by omega⟩, ?_⟩
          conv => whnf
          refine YN.loadOwn (b := b) (q := 0 + k * 12 + 11) (v := .int .i64 (y.tries + 1)) 3 rfl rfl rfl rfl (hgot2 _ 11 _ rfl) ?_
          conv => whnf
          refine ⟨fun _ => ?_, fun q => absurd q (by simp [Item.lease])⟩
          conv => whnf
          refine QN.call _ [] rfl rfl rfl (by kernel_rfl) rfl (f_itoa g20 ttl (by omega) (by omega)) (by decide) rfl (fun v g m _ h => h) ?_
          conv => whnf
          refine ⟨by rw [show (⟨#[119]⟩ : ByteArray).size = 1 from rfl]; omega, ?_⟩
          conv => whnf
          rw [← hwn]
          have hsl : (l.map Item.own).length = ((l.set k (y.lease wn (qt + 1) (now5 + ttl) (y.tries + 1))).map Item.own).length := by simp
          refine ⟨⟨h11, l.set k (y.lease wn (qt + 1) (now5 + ttl) (y.tries + 1)), A', c', qt + 1, 0, A', (l.set k (y.lease wn (qt + 1) (now5 + ttl) (y.tries + 1))).length, c', qt + 1, ⟨b, .cells (((l.map Item.own).set k ⟨y.t, now5 + ttl, qt + 1, y.tries + 1⟩).flatMap Own.enc ++ rest) 34 (0, 0)⟩, some ⟨b, 0, none⟩, d⟩, [0, 1, 2, 4, 3], Sub.of (by decide) rfl ⟨rfl, rfl, ?_, rfl, int_eq w2, rfl, rfl, rfl, congrArg Value.bool (by rw [show (y.lease wn (qt + 1) (now5 + ttl) (y.tries + 1)).holder = wn from rfl, bytes_eq]; simp), rfl, rfl, trivial⟩,
            ⟨hh12.mono (hg18.trans (hg19.trans hg20)), hR, ?_, by simp; omega, by simp only; omega, by simp only; omega, ok_set (fun z hz => (hits z hz).mono (by omega)) ⟨hyo.run, fun q => absurd q hholder, by show 0 ≤ y.tries + 1; omega, by show y.tries + 1 ≤ _; omega⟩, .inl ⟨rfl, rfl, rfl, rfl, rfl⟩⟩⟩
          · show Value.slice _ _ _ = Value.slice _ _ _
            rw [hsl]
          · simp only
            rw [own_set]
            rw [List.length_append, flat_len Own.len] at hc1
            exact .own b d rest (by rw [List.length_append, flat_len Own.len, List.length_set]; exact hc1) (by rw [List.length_set]; exact hc2)
        · conv => whnf
          refine COK.seq (vcC_ok _ _ _ _ _ ?_)
          conv => whnf
          refine ⟨fun q => absurd (of_decide_eq_true q) (by omega), fun _ => ?_⟩
          conv => whnf
          refine COK.seq (vcC_ok _ _ _ _ _ ?_)
          conv => whnf
          refine COK.seq (vcC_ok _ _ _ _ _ ?_)
          conv => whnf
          intro gb
          conv => whnf
          refine COK.seq (vcC_ok _ _ _ _ _ ?_)
          conv => whnf
          refine vcC_ok _ _ _ _ _ ?_
          conv => whnf
          refine COK.draw [1, 2] (by kernel_rfl) (by kernel_rfl) ?_
          conv => whnf
          refine OOK.call [] rfl rfl rfl (by kernel_rfl) rfl (f_itoa g19 ttl (by omega) (by omega)) (by decide) rfl ?_
          rintro v_ g20 m_ hg20 ⟨rfl, rfl⟩
          conv => whnf
          refine ⟨⟨rfl, rfl, rfl, rfl, rfl, rfl, rfl, trivial⟩, ?_⟩
          conv => whnf
          refine ⟨by rw [show (⟨#[119]⟩ : ByteArray).size = 1 from rfl]; omega, ?_⟩
          conv => whnf
          rw [← hwn]
          refine OOK.call [] rfl rfl rfl (by kernel_rfl) rfl (f_poll g20 A c l qt now5 ttl wn (hrow.mono ((hg18'.trans hg19).trans hg20)) (by omega) hholder (by omega) (by omega) (by omega) (by omega) hq0 (by omega) (fun x hx => ⟨(hits x hx).t0, by have := (hits x hx).t1; omega⟩)) (by decide) rfl ?_
          rintro v_ g21 m_ hg21 ⟨rfl, hv⟩
          rcases hv with ⟨k', x', A', c', hk', _⟩ | ⟨_, A', c', rfl, hr⟩
          · rw [hk] at hk'; cases hk'
          · conv => whnf
            refine ⟨⟨rfl, rfl, rfl, rfl, rfl, rfl, rfl, trivial⟩, ?_⟩
            conv => whnf
            refine ⟨⟨rfl, rfl, rfl, rfl, rfl, rfl, rfl, trivial⟩, ?_⟩
            conv => whnf
            refine ⟨⟨rfl, rfl, rfl, rfl, rfl, rfl, rfl, trivial⟩, ?_⟩
            conv => whnf
            refine ⟨(by intro q; cases q), fun _ => ?_⟩
            conv => whnf
            exact ⟨⟨h11, l, A', c', qt, 0, A', l.length, c', qt, sl, B, d⟩, [0, 1, 2, 5, 3], Sub.of (by decide) rfl ⟨rfl, rfl, rfl, rfl, rfl, rfl, rfl, rfl, congrArg Value.bool (by decide), rfl, rfl, trivial⟩,
              ⟨hh12.mono (hg18.trans (hg19.trans (hg20.trans hg21))), hr, hown, by simp only; omega, hq0, by simp only; omega, fun y hy => (hits y hy).mono (by omega), .inl ⟨rfl, rfl, rfl, rfl, rfl⟩⟩⟩
      · have h4u : 4 ≤ u11 := by
          rcases h98 with h | h
          · rw [h] at q; cases q
          · exact h
        have hg18' : g3.le g18 := ((hg10'.trans hg11).trans hg12).trans hg18
        have w1 : IntKind.i64.wrap (now5 + ttl) = now5 + ttl := i64_in (by omega) (by omega)
        rcases hlive with ⟨k, y, hk, hy, rfl, rfl⟩ | ⟨hk, rfl, rfl⟩
        · obtain rfl : want = 0 := by rw [hwant, if_neg (by omega)]
          have hkl := findIdx_lt hk
          obtain ⟨b, rest, rfl, rfl, hc1, hc2, hcell⟩ := hgot k y hy
          have hyo := hits y (List.mem_of_getElem? hy)
          have hxo : (l.map Item.own)[k]? = some y.own := by simp [hy]
          have hkl' : k < (l.map Item.own).length := by omega
          have wk : IntKind.i64.wrap ((k : Int) + 1) = (k : Int) + 1 := i64_in (by omega) (by omega)
          refine vcC_ok _ _ _ _ _ ?_
          conv => whnf
          refine ⟨fun q4 => ?_, fun q4 => ?_⟩
          · -- ack
            conv => whnf
            refine ⟨fun _ => ?_, fun q => absurd (of_decide_eq_false q) (by omega)⟩
            conv => whnf
            rw [wk]
            refine OOK.call [3] rfl rfl rfl (by kernel_rfl) rfl (deleteTask Own.enc Own.len Own.one g18 b d (l.map Item.own) rest k hkl' (by omega) hc1 hc2) (by decide) rfl ?_
            rintro v_ g19 m_ hg19 ⟨b', c', rest', rfl, rfl, e1, e2⟩
            conv => whnf
            refine OOK.call [] rfl rfl rfl (by kernel_rfl) rfl (f_ack g19 A c l qt tok (hrow.mono (hg18'.trans hg19)) (by omega) (by omega)) (by decide) rfl ?_
            rintro v_ g20 m_ hg20 ⟨rfl, hv⟩
            rcases hv with ⟨k', A', c2, hk', rfl, hr⟩ | ⟨hno, _⟩
            · obtain rfl : k = k' := Option.some.inj (hk.symm.trans hk')
              have hel : (l.eraseIdx k).length = l.length - 1 := List.length_eraseIdx_of_lt hkl
              conv => whnf
              refine ⟨⟨h11, l.eraseIdx k, A', c2, qt, 0, A', (l.eraseIdx k).length, c2, qt, ⟨b', .cells (((l.map Item.own).eraseIdx k).flatMap Own.enc ++ rest') 34 (0, 0)⟩, some ⟨b', 0, none⟩, c'⟩, [0, 1, 2, 5, 6], Sub.of (by decide) rfl ⟨rfl, rfl, ?_, rfl, rfl, rfl, rfl, rfl, rfl, rfl, rfl, trivial⟩,
                ⟨hh12.mono (hg18.trans (hg19.trans hg20)), hr, ?_, by simp only; omega, hq0, by simp only; omega, ok_erase (fun z hz => (hits z hz).mono (by omega)), .inl ⟨rfl, rfl, rfl, rfl, rfl⟩⟩⟩
              · show Value.slice _ _ _ = Value.slice _ _ _
                rw [own_erase]
              · simp only
                rw [own_erase]
                exact .own b' c' rest' e1 e2
            · rw [hk] at hno; cases hno
          · conv => whnf
            refine ⟨fun q5 => ?_, fun q5 => ?_⟩
            · -- extend
              conv => whnf
              refine ⟨fun ql => ?_, fun ql => ?_⟩
              · have hun : y.until_ > now5 := of_decide_eq_true ql
                have hhold : y.holder ≠ noStr := fun h => by
                  have := hyo.none_ h
                  omega
                conv => whnf
                refine ⟨⟨by omega, by omega⟩, ?_⟩
                conv => whnf
                refine OOK.storeElt Own.len (k := k) (j := 9) (l := l.map Item.own) 3 (⟨y.t, now5 + ttl, y.token, y.tries⟩ : Own) rfl rfl (v := .int .i64 (now5 + ttl)) (by show some (Value.int .i64 (IntKind.i64.wrap (now5 + ttl))) = _; rw [w1]) rfl rfl rfl rfl hxo rfl (Nat.le_of_ble_eq_true rfl) ?_
                conv => whnf
                refine OOK.call [] rfl rfl rfl (by kernel_rfl) rfl (f_extend g18 A c l qt tok now5 ttl (hrow.mono hg18') (by omega) (by omega) (by omega) (by omega) (by omega) (by omega)) (by decide) rfl ?_
                rintro v_ g20 m_ hg20 ⟨rfl, hv⟩
                rcases hv with ⟨k', x', A', c2, hk', hx', _, _, rfl, hr⟩ | ⟨hbad, _⟩
                · obtain rfl : k = k' := Option.some.inj (hk.symm.trans hk')
                  obtain rfl : y = x' := Option.some.inj (hy.symm.trans hx')
                  have hsl : (l.map Item.own).length = ((l.set k (y.lease y.holder y.token (now5 + ttl) y.tries)).map Item.own).length := by simp
                  conv => whnf
                  refine ⟨⟨h11, l.set k (y.lease y.holder y.token (now5 + ttl) y.tries), A', c2, qt, 0, A', (l.set k (y.lease y.holder y.token (now5 + ttl) y.tries)).length, c2, qt, ⟨b, .cells (((l.map Item.own).set k ⟨y.t, now5 + ttl, y.token, y.tries⟩).flatMap Own.enc ++ rest) 34 (0, 0)⟩, some ⟨b, 0, none⟩, d⟩, [0, 1, 2, 5, 3], Sub.of (by decide) rfl ⟨rfl, rfl, ?_, rfl, rfl, rfl, rfl, rfl, rfl, rfl, rfl, trivial⟩,
                    ⟨hh12.mono (hg18.trans hg20), hr, ?_, by simp; omega, hq0, by simp only; omega, ok_set (fun z hz => (hits z hz).mono (by omega)) ⟨hyo.run, fun q => absurd q hhold, hyo.t0, by have := hyo.t1; show y.tries ≤ _; omega⟩, .inl ⟨rfl, rfl, rfl, rfl, rfl⟩⟩⟩
                  · show Value.slice _ _ _ = Value.slice _ _ _
                    rw [hsl]
                  · simp only
                    rw [own_set]
                    rw [List.length_append, flat_len Own.len] at hc1
                    exact .own b d rest (by rw [List.length_append, flat_len Own.len, List.length_set]; exact hc1) (by rw [List.length_set]; exact hc2)
                · rcases hbad with hno | ⟨k', x', hk', hx', hbad⟩
                  · rw [hk] at hno; cases hno
                  · obtain rfl : k = k' := Option.some.inj (hk.symm.trans hk')
                    obtain rfl : y = x' := Option.some.inj (hy.symm.trans hx')
                    rcases hbad with h | h
                    · exact absurd h hhold
                    · omega
              · have hun : ¬ y.until_ > now5 := of_decide_eq_false ql
                conv => whnf
                refine OOK.call [] rfl rfl rfl (by kernel_rfl) rfl (f_extend g18 A c l qt tok now5 ttl (hrow.mono hg18') (by omega) (by omega) (by omega) (by omega) (by omega) (by omega)) (by decide) rfl ?_
                rintro v_ g20 m_ hg20 ⟨rfl, hv⟩
                rcases hv with ⟨k', x', A', c2, hk', hx', _, hlt2, rfl, hr⟩ | ⟨_, rfl⟩
                · obtain rfl : k = k' := Option.some.inj (hk.symm.trans hk')
                  obtain rfl : y = x' := Option.some.inj (hy.symm.trans hx')
                  omega
                · conv => whnf
                  exact ⟨⟨h11, l, A, c, qt, 24, none, 0, 0, 0, _, some ⟨b, 0, none⟩, d⟩, [0, 1, 2, 5, 3], Sub.of (by decide) rfl ⟨rfl, rfl, rfl, rfl, rfl, rfl, rfl, rfl, rfl, rfl, rfl, trivial⟩,
                    ⟨hh12.mono (hg18.trans hg20), hrow.mono (hg18'.trans hg20), hown, by simp only; omega, hq0, by simp only; omega, fun z hz => (hits z hz).mono (by omega), .inr ⟨rfl, rfl, rfl, rfl, rfl⟩⟩⟩
            · -- return
              conv => whnf
              refine ⟨fun q6 => ?_, fun q6 => ?_⟩
              · conv => whnf
                refine ⟨fun _ => ?_, fun q => absurd (of_decide_eq_false q) (by omega)⟩
                conv => whnf
                refine ⟨⟨by omega, by omega⟩, ?_⟩
                conv => whnf
                refine OOK.storeElt Own.len (k := k) (j := 9) (l := l.map Item.own) 3 (⟨y.t, 0, y.token, y.tries⟩ : Own) rfl rfl (v := .int .i64 0) rfl rfl rfl rfl rfl hxo rfl (Nat.le_of_ble_eq_true rfl) ?_
                conv => whnf
                refine ⟨⟨by omega, by omega⟩, ?_⟩
                conv => whnf
                refine OOK.storeElt Own.len (k := k) (j := 10) (l := (l.map Item.own).set k ⟨y.t, 0, y.token, y.tries⟩) 3 (⟨y.t, 0, 0, y.tries⟩ : Own) rfl rfl (v := .int .i64 0) rfl rfl rfl rfl rfl (List.getElem?_set_self hkl') rfl (Nat.le_of_ble_eq_true rfl) ?_
                rw [List.set_set]
                conv => whnf
                refine OOK.call [] rfl rfl rfl (by kernel_rfl) rfl (f_return g18 A c l qt tok (hrow.mono hg18') (by omega) (by omega)) (by decide) rfl ?_
                rintro v_ g20 m_ hg20 ⟨rfl, hv⟩
                rcases hv with ⟨k', x', A', c2, hk', hx', rfl, hr⟩ | ⟨hno, _⟩
                · obtain rfl : k = k' := Option.some.inj (hk.symm.trans hk')
                  obtain rfl : y = x' := Option.some.inj (hy.symm.trans hx')
                  have hsl : (l.map Item.own).length = ((l.set k (y.lease noStr 0 0 y.tries)).map Item.own).length := by simp
                  conv => whnf
                  refine ⟨⟨h11, l.set k (y.lease noStr 0 0 y.tries), A', c2, qt, 0, A', (l.set k (y.lease noStr 0 0 y.tries)).length, c2, qt, ⟨b, .cells (((l.map Item.own).set k ⟨y.t, 0, 0, y.tries⟩).flatMap Own.enc ++ rest) 34 (0, 0)⟩, some ⟨b, 0, none⟩, d⟩, [0, 1, 2, 5, 3], Sub.of (by decide) rfl ⟨rfl, rfl, ?_, rfl, rfl, rfl, rfl, rfl, rfl, rfl, rfl, trivial⟩,
                    ⟨hh12.mono (hg18.trans hg20), hr, ?_, by simp; omega, hq0, by simp only; omega, ok_set (fun z hz => (hits z hz).mono (by omega)) ⟨hyo.run, fun _ => rfl, hyo.t0, by have := hyo.t1; show y.tries ≤ _; omega⟩, .inl ⟨rfl, rfl, rfl, rfl, rfl⟩⟩⟩
                  · show Value.slice _ _ _ = Value.slice _ _ _
                    rw [hsl]
                  · simp only
                    rw [own_set]
                    rw [List.length_append, flat_len Own.len] at hc1
                    exact .own b d rest (by rw [List.length_append, flat_len Own.len, List.length_set]; exact hc1) (by rw [List.length_set]; exact hc2)
                · rw [hk] at hno; cases hno
              · have h4' : u11 ≠ 4 := by simpa using q4
                have h5' : u11 ≠ 5 := by simpa using q5
                have h6' : u11 ≠ 6 := by simpa using q6
                omega
        · obtain rfl : want = 24 := by rw [hwant, if_pos (by omega)]
          refine vcC_ok _ _ _ _ _ ?_
          conv => whnf
          refine ⟨fun q4 => ?_, fun q4 => ?_⟩
          · -- ack
            conv => whnf
            refine ⟨fun q => absurd (of_decide_eq_true q) (by omega), fun _ => ?_⟩
            conv => whnf
            refine OOK.call [] rfl rfl rfl (by kernel_rfl) rfl (f_ack g18 A c l qt tok (hrow.mono hg18') (by omega) (by omega)) (by decide) rfl ?_
            rintro v_ g20 m_ hg20 ⟨rfl, hv⟩
            rcases hv with ⟨k', A', c2, hk', _⟩ | ⟨_, rfl⟩
            · rw [hk] at hk'; cases hk'
            · conv => whnf
              exact ⟨⟨h11, l, A, c, qt, 24, none, 0, 0, 0, sl, B, d⟩, [0, 1, 2, 5, 3], Sub.of (by decide) rfl ⟨rfl, rfl, rfl, rfl, rfl, rfl, rfl, rfl, rfl, rfl, rfl, trivial⟩,
                ⟨hh12.mono (hg18.trans hg20), hrow.mono (hg18'.trans hg20), hown, by simp only; omega, hq0, by simp only; omega, fun z hz => (hits z hz).mono (by omega), .inr ⟨rfl, rfl, rfl, rfl, rfl⟩⟩⟩
          · conv => whnf
            refine ⟨fun q5 => ?_, fun q5 => ?_⟩
            · -- extend
              conv => whnf
              refine ⟨(by intro q; cases q), fun _ => ?_⟩
              conv => whnf
              refine OOK.call [] rfl rfl rfl (by kernel_rfl) rfl (f_extend g18 A c l qt tok now5 ttl (hrow.mono hg18') (by omega) (by omega) (by omega) (by omega) (by omega) (by omega)) (by decide) rfl ?_
              rintro v_ g20 m_ hg20 ⟨rfl, hv⟩
              rcases hv with ⟨k', x', A', c2, hk', hx', _, hlt2, rfl, hr⟩ | ⟨_, rfl⟩
              · rw [hk] at hk'; cases hk'
              · conv => whnf
                exact ⟨⟨h11, l, A, c, qt, 24, none, 0, 0, 0, sl, B, d⟩, [0, 1, 2, 5, 3], Sub.of (by decide) rfl ⟨rfl, rfl, rfl, rfl, rfl, rfl, rfl, rfl, rfl, rfl, rfl, trivial⟩,
                  ⟨hh12.mono (hg18.trans hg20), hrow.mono (hg18'.trans hg20), hown, by simp only; omega, hq0, by simp only; omega, fun z hz => (hits z hz).mono (by omega), .inr ⟨rfl, rfl, rfl, rfl, rfl⟩⟩⟩
            · -- return
              conv => whnf
              refine ⟨fun q6 => ?_, fun q6 => ?_⟩
              · conv => whnf
                refine ⟨fun q => absurd (of_decide_eq_true q) (by omega), fun _ => ?_⟩
                conv => whnf
                refine OOK.call [] rfl rfl rfl (by kernel_rfl) rfl (f_return g18 A c l qt tok (hrow.mono hg18') (by omega) (by omega)) (by decide) rfl ?_
                rintro v_ g20 m_ hg20 ⟨rfl, hv⟩
                rcases hv with ⟨k', x', A', c2, hk', _⟩ | ⟨_, rfl⟩
                · rw [hk] at hk'; cases hk'
                · conv => whnf
                  exact ⟨⟨h11, l, A, c, qt, 24, none, 0, 0, 0, sl, B, d⟩, [0, 1, 2, 5, 3], Sub.of (by decide) rfl ⟨rfl, rfl, rfl, rfl, rfl, rfl, rfl, rfl, rfl, rfl, rfl, trivial⟩,
                    ⟨hh12.mono (hg18.trans hg20), hrow.mono (hg18'.trans hg20), hown, by simp only; omega, hq0, by simp only; omega, fun z hz => (hits z hz).mono (by omega), .inr ⟨rfl, rfl, rfl, rfl, rfl⟩⟩⟩
              · have h4' : u11 ≠ 4 := by simpa using q4
                have h5' : u11 ≠ 5 := by simpa using q5
                have h6' : u11 ≠ 6 := by simpa using q6
                omega
  rintro ⟨h14, l', A', c', qt', code, nA, nn, nc, nq, sl', B', d'⟩ g13 hg13 h13
  have ⟨k1, k2, k3, k4, k5, k6, k7, k8⟩ := h13
  simp only at k1 k2 k3 k4 k5 k6 k7 k8
  dsimp only
  conv => whnf
  refine COK.seq (vcC_ok _ _ _ _ _ ?_)
  conv => whnf
  refine ⟨(by intro q; cases q), fun _ => ?_⟩
  conv => whnf
  refine ⟨(by intro q; simp at q), fun _ => ?_⟩
  conv => whnf
  have eu : ∀ u : Int, 0 ≤ u → u < 12 → IntKind.i64.wrap (now5 + u) = now5 + u := fun u h0 h1 => i64_in (by omega) (by omega)
  refine COK.seq (COK.cut (α := Unit) (fun _ => [(3, .own 0 0), (4, .own 1 0), (5, .val (.slice B' (l'.map Item.own).length d')), (6, .own 2 0), (7, .val (.int .i64 qt')), (28, .val (.int .i64 N)), (29, .val (.int .i64 i))])
    (fun _ => [h14.slot hB, qBox qb A' l'.length c' qt', intBox nb now5, sl']) (fun _ _ => True) ?_ ?_)
  · refine vcC_ok _ _ _ _ _ ?_
    rcases k8 with ⟨rfl, rfl, rfl, rfl, rfl⟩ | ⟨rfl, rfl, rfl, rfl, rfl⟩
    · conv => whnf
      refine ⟨fun q => ?_, (by intro q; simp at q)⟩
      conv => whnf
      exact ⟨(), [0, 1, 2, 4], Sub.of (by decide) rfl ⟨rfl, rfl, rfl, rfl, rfl, rfl, rfl, trivial⟩, trivial⟩
    · conv => whnf
      refine ⟨(by intro q; simp at q), fun q => ?_⟩
      conv => whnf
      exact ⟨(), [0, 1, 2, 4], Sub.of (by decide) rfl ⟨rfl, rfl, rfl, rfl, rfl, rfl, rfl, trivial⟩, trivial⟩
  rintro - g15 hg15 -
  conv => whnf
  refine vcC_ok _ _ _ _ _ ?_
  conv => whnf
  refine COK.draw [1, 2] (by kernel_rfl) (by kernel_rfl) ?_
  conv => whnf
  refine OOK.call [0] rfl rfl rfl (by kernel_rfl) rfl (hand_n g15 hB h14 12 (k1.mono hg15) (by omega) (by omega)) (by decide) rfl ?_
  rintro v_ g16 m_ hg16 ⟨u16, h16, rfl, u160, u161, -, hh16, rfl⟩
  conv => whnf
  refine ⟨⟨rfl, rfl, rfl, rfl, trivial⟩, ?_⟩
  conv => whnf
  refine OOK.call [3] rfl rfl rfl (by kernel_rfl) rfl (f_loomFree g16 A' B' c' d' l' (l'.map Item.own) qt' (IntKind.i64.wrap (now5 + u16)) sl' (k2.mono (hg15.trans hg16)) k3 (by omega) (by simp) (by rw [eu u16 u160 u161]; exact free_same k7 (by omega))) (by decide) rfl ?_
  rintro v_ g17 m_ hg17 ⟨rfl, rfl⟩
  conv => whnf
  refine ⟨⟨rfl, rfl, rfl, rfl, trivial⟩, ?_⟩
  conv => whnf
  refine ⟨(by intro q; cases q), fun _ => ?_⟩
  conv => whnf
  refine vcC_ok _ _ _ _ _ ?_
  conv => whnf
  refine ⟨⟨i + 1, h16, l', A', c', qt', now5, sl', B', d'⟩, [0, 1, 2, 3], Sub.of (by decide) rfl ⟨rfl, rfl, rfl, rfl, rfl, rfl, int_eq (by rw [i64_in (by omega) (by omega)]; rfl), trivial⟩, ?_, by simp only; omega⟩
  exact ⟨by simp only; omega, hh16.mono hg17, (k2.mono (hg15.trans (hg16.trans hg17))), k3, k4, k5, by simp only; omega, by simp only; omega, by simp only; omega, fun y hy => (k7 y hy).mono (by simp only; omega)⟩
end Go.Proofs.YtmhdegklhbmnlaaDoor
