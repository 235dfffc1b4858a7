/- WholeTimers: the walk of the whole. -/
import Derived.Test.YtnkfpapegknlfaaTItems2
import Derived.Test.YtnkfpapegknlfaaTIns
import Derived.Test.YtnkfpapegknlfaaTSearch
import Derived.Test.YtnkfpapegknlfaaTWord
import Derived.Test.YtnkfpapegknlfaaTLaw
set_option linter.unusedVariables false
set_option linter.unusedSimpArgs false
set_option maxRecDepth 100000
namespace Go.Proofs.Ytnkfpapegknlfaa
open Go Go.SX

structure St where
  i : Nat
  h : Hd
  l : List Item
  r : List Item
  s : Slot
  A : Option Addr
  c : Nat
  B : Option Addr
  d : Nat
  now : Int
structure St.ok (k : Nat) (g : GH) (x : St) : Prop where
  h : x.h.ok g
  own : OwnAt 29 2 Item.enc x.l x.s x.A x.c
  heap : HeapOk x.l
  perm : x.l.Perm x.r
  sorted : Sorted x.r
  row : Row g Item.enc x.B x.r
  ids : (x.r.map Item.id).Nodup
  len : x.l.length ≤ k
  cap : x.r.length ≤ x.d
structure Dst where
  j : Nat
  B : Option Addr
  d : Nat
  so : Slot
  Ao : Option Addr
  co : Nat
structure Dst.ok (r : List Item) (nw : Int) (g : GH) (x : Dst) : Prop where
  own : OwnAt 29 2 Item.enc (r.take x.j) x.so x.Ao x.co
  row : Row g Item.enc x.B (r.drop x.j)
  j : x.j ≤ r.length
  due : ∀ y ∈ r.take x.j, y.due ≤ nw
  cap : (r.drop x.j).length ≤ x.d
def FoundI (l : List Item) (id : Int) (at_ : Int) : Prop := (∃ k : Nat, l.findIdx? (·.id == id) = some k ∧ at_ = k) ∨ (l.findIdx? (·.id == id) = none ∧ at_ = -1)
set_option maxHeartbeats 20000000 in
theorem f_whole (g : GH) (A : Option Addr) (n c : Nat) (hb : BytesG g A n) :
    Tri Try.prog 3 [.slice A n c] g [] fun v g' m' => v = .bool true ∧ m' = [] := by
  refine Tri.vc [.val (.slice A n c)] Try.func3 rfl Try.ntmps3 rfl rfl ?_
  conv => whnf
  refine ⟨fun _ => ?_, fun q => ?_⟩
  · conv => whnf
    exact .mk ⟨_, [], _, rfl, by decide, rfl, trivial, rfl, rfl⟩
  have hn : n ≤ 4096 := by have := of_decide_eq_false q; omega
  conv => whnf
  refine OOK.call [] rfl rfl rfl (by kernel_rfl) rfl (hand_new g A n c hn hb) (by decide) rfl ?_
  rintro v g1 m1 hg1 ⟨hB, s, rfl, rfl⟩
  conv => whnf
  refine OOK.call [] rfl rfl rfl (by kernel_rfl) rfl (f_new g1) (by decide) rfl ?_
  rintro v g2 m2 hg2 ⟨qb, rfl, rfl⟩
  conv => whnf
  refine OOK.call [0] rfl rfl rfl (by kernel_rfl) rfl (hand_n g2 hB ⟨A, n, c, 0, s, 260, .slice none 0 0, 0, false⟩ 120 ⟨Int.le_refl 0, by simp only; omega, hn, hb.mono (hg1.trans hg2)⟩ (by omega) (by omega)) (by decide) rfl ?_
  rintro v g3 m3 hg3 ⟨N, h1, rfl, hN0, hN1, -, hok1, rfl⟩
  conv => whnf
  refine COK.dummy 0 ?_
  conv => whnf
  refine COK.loop (α := St) (fun x => [(3, .own 0 0), (4, .val (.pointer (some ⟨qb, 0, none⟩))), (5, .val (.slice x.B x.r.length x.d)), (6, .val (.func (.func 6) #[] #[])), (7, .val (.int .i64 x.now)), (24, .val (.int .i64 N)), (25, .val (.int .i64 x.i))])
    (fun x => [x.h.slot hB, qBox qb x.A x.l.length x.c, x.s]) (fun x g => (x.i : Int) ≤ N ∧ x.ok x.i g) (fun x => (N - x.i).toNat)
    ⟨0, h1, [], [], ⟨0, .dead⟩, none, 0, none, 0, -20⟩ [0, 1, 2] (Sub.of (by decide) rfl ⟨rfl, rfl, rfl, rfl, rfl, rfl, rfl, trivial⟩)
    ⟨hN0, hok1, .nil _ rfl, fun j _ x p hx => by simp at hx, .refl _, List.Pairwise.nil, fun h => absurd rfl h, List.nodup_nil, Nat.le_refl _, Nat.le_refl _⟩ ?_
  rintro ⟨i, h, l, r, sl, A, c, B, d, now⟩ g4 hg4 ⟨hi, hI⟩
  have ⟨hh, hown, hheap, hperm, hsort, hrow, hids, hlen, hcap⟩ := hI
  simp only at hi hh hown hheap hperm hsort hrow hids hlen hcap
  dsimp only
  refine COK.seq (vcC_ok _ _ _ _ _ ?_)
  conv => whnf
  refine COK.seq (vcC_ok _ _ _ _ _ ?_)
  conv => whnf
  refine ⟨fun q => ?_, fun q => ?_⟩
  rotate_left
  · conv => whnf
    exact .mk ⟨_, [], _, rfl, by decide, rfl, trivial, rfl, rfl⟩
  have hlt : (i : Int) < N := of_decide_eq_true q
  conv => whnf
  refine COK.seq (COK.block ?_)
  refine COK.seq (vcC_ok _ _ _ _ _ ?_)
  conv => whnf
  refine OOK.call [0] rfl rfl rfl (by kernel_rfl) rfl (hand_n g4 hB h 40 hh (by omega) (by omega)) (by decide) rfl ?_
  rintro v_ g5 m_ hg5 ⟨u5, h5, rfl, u50, u51, hnh5, hh5, rfl⟩
  obtain ⟨id, hid⟩ : ∃ t, t = IntKind.i64.wrap (u5 - 5) := ⟨_, rfl⟩
  conv => whnf
  intro tb
  conv => whnf
  rw [← hid]
  refine COK.seq (vcC_ok _ _ _ _ _ ?_)
  conv => whnf
  refine OOK.call [3] rfl rfl rfl (by kernel_rfl) rfl (indexItem Item.enc Item.len g5 [intBox tb id] B d r _ _ (·.id == id) (hrow.mono hg5).in_ (by have := hperm.length_eq; omega) (by kernel_rfl) fun g' hg x hx => c_id g' tb id x) (by decide) rfl ?_
  rintro v_ g6 m_ hg6 ⟨rfl, hv⟩
  obtain ⟨at_, rfl, hat⟩ : ∃ at_, v_ = .int .i64 at_ ∧ FoundI r id at_ := by
    rcases hv with ⟨k, h1, rfl⟩ | ⟨h1, rfl⟩
    · exact ⟨_, rfl, .inl ⟨k, h1, rfl⟩⟩
    · exact ⟨_, rfl, .inr ⟨h1, rfl⟩⟩
  conv => whnf
  have hrow6 := hrow.mono (hg5.trans hg6)
  have hrl : r.length ≤ i := by have := hperm.length_eq; omega
  have hi2 : i ≤ 120 := by omega
  refine COK.seq (COK.cut (α := St) (fun x => [(3, .own 0 0), (4, .val (.pointer (some ⟨qb, 0, none⟩))), (5, .val (.slice x.B x.r.length x.d)), (6, .val (.func (.func 6) #[] #[])), (7, .val (.int .i64 x.now)), (24, .val (.int .i64 N)), (25, .val (.int .i64 i))])
    (fun x => [x.h.slot hB, qBox qb x.A x.l.length x.c, x.s]) (fun x g => x.ok (i + 1) g) ?_ ?_)
  · refine COK.seq (vcC_ok _ _ _ _ _ ?_)
    conv => whnf
    refine OOK.call [0] rfl rfl rfl (by kernel_rfl) rfl (hand_n g6 hB h5 6 (hh5.mono hg6) (by omega) (by omega)) (by decide) rfl ?_
    rintro v_ g7 m_ hg7 ⟨u7, h7, rfl, u70, u71, hnh7, hh7, rfl⟩
    conv => whnf
    have hrow7 := hrow6.mono hg7
    refine COK.block ?_
    refine COK.seq (vcC_ok _ _ _ _ _ ?_)
    conv => whnf
    refine COK.cond rfl (fun q0 => ?_) (fun q0 => ?_)
    · refine COK.seq (vcC_ok _ _ _ _ _ ?_)
      conv => whnf
      refine OOK.call [0] rfl rfl rfl (by kernel_rfl) rfl (hand_n g7 hB h7 9 hh7 (by omega) (by omega)) (by decide) rfl ?_
      rintro v_ g8 m_ hg8 ⟨u8, h8, rfl, u80, u81, hnh8, hh8, rfl⟩
      obtain ⟨nw, hnw⟩ : ∃ t, t = IntKind.i64.wrap (now + u8) := ⟨_, rfl⟩
      have hrow8 := hrow7.mono hg8
      conv => whnf
      rw [← hnw]
      refine COK.seq (vcC_ok _ _ _ _ _ ?_)
      conv => whnf
      refine COK.dummy 0 ?_
      refine COK.seq (COK.cut (α := Dst) (fun x => [(3, .own 0 0), (4, .val (.pointer (some ⟨qb, 0, none⟩))), (5, .val (.slice x.B (r.drop x.j).length x.d)), (6, .val (.func (.func 6) #[] #[])), (7, .val (.int .i64 nw)), (10, .val (.slice x.Ao (r.take x.j).length x.co)), (24, .val (.int .i64 N)), (25, .val (.int .i64 i))])
        (fun x => [h8.slot hB, qBox qb A l.length c, sl, x.so]) (fun x g => x.ok r nw g ∧ ∀ y, r[x.j]? = some y → nw < y.due) ?_ ?_)
      · refine COK.block ?_
        refine COK.loop (α := Dst) (fun x => [(3, .own 0 0), (4, .val (.pointer (some ⟨qb, 0, none⟩))), (5, .val (.slice x.B (r.drop x.j).length x.d)), (6, .val (.func (.func 6) #[] #[])), (7, .val (.int .i64 nw)), (10, .val (.slice x.Ao (r.take x.j).length x.co)), (24, .val (.int .i64 N)), (25, .val (.int .i64 i))])
          (fun x => [h8.slot hB, qBox qb A l.length c, sl, x.so]) (fun x g => x.ok r nw g) (fun x => r.length - x.j)
          ⟨0, B, d, ⟨0, .dead⟩, none, 0⟩ [0, 1, 2, 4] (Sub.of (by decide) rfl ⟨rfl, rfl, rfl, rfl, rfl, rfl, rfl, rfl, trivial⟩)
          ⟨.nil _ rfl, hrow8, Nat.zero_le _, by simp, hcap⟩ ?_
        rintro ⟨j, B1, d1, so, Ao, co⟩ g9 hg9 ⟨hOo, hrow9, hj, hdue, hcp⟩
        simp only at hOo hrow9 hj hdue hcp
        dsimp only
        refine vcC_ok _ _ _ _ _ ?_
        conv => whnf
        refine ⟨fun q1 => ?_, fun q1 => ?_⟩
        · have hjl : j < r.length := by have := of_decide_eq_true q1; rw [List.length_drop] at this; omega
          obtain ⟨y, hy⟩ : ∃ y, r[j]? = some y := ⟨_, List.getElem?_eq_getElem hjl⟩
          have hdrop : r.drop j = y :: r.drop (j + 1) := by
            obtain ⟨h3, h4⟩ := List.getElem?_eq_some_iff.1 hy
            rw [List.drop_eq_getElem_cons h3, h4]
          have htake : r.take (j + 1) = r.take j ++ [y] := by rw [List.take_add_one, hy]; rfl
          obtain ⟨a, rfl, hr⟩ := hrow9.at_ Item.len (i := 0) (x := y) (by rw [hdrop]; rfl)
          conv => whnf
          refine ⟨⟨Int.le_refl _, by have := of_decide_eq_true q1; omega⟩, ?_⟩
          conv => whnf
          refine OOK.yn (YN.load rfl rfl rfl (v := .int .i64 y.due) (by have := hr 0 _ rfl; simpa [addN] using this) ?_)
          conv => whnf
          refine ⟨fun q2 => ?_, fun q2 => ?_⟩
          · conv => whnf
            refine ⟨⟨Int.le_refl _, by have := of_decide_eq_true q1; omega⟩, ?_⟩
            conv => whnf
            refine OOK.yn (YN.loads rfl rfl rfl (by simpa [addN] using hr) ?_)
            conv => whnf
            intro vb
            conv => whnf
            have htl : (2 * ((r.take j).length + 1) + 1000) * 16 ≤ 281474976710656 := by
              rw [List.length_take]; omega
            refine OOK.appendRow y 3 Item.len rfl rfl rfl rfl (.inl ⟨_, rfl⟩) rfl (size := 2) (bytes := 16) rfl rfl rfl (by decide) rfl rfl hOo
              (Src.own (i := 4) (q := 0) (cs := y.enc) (t := 29) (fr := (0, 0)) rfl rfl (fun j v hj => by simpa using hj)) (Item.one _) htl ?_
            intro db s' A' c' hO'
            conv => whnf
            refine ⟨⟨Int.le_of_lt (by decide), by have := of_decide_eq_true q1; omega⟩, ?_⟩
            conv => whnf
            have hdl : (r.drop j).length - 1 = (r.drop (j + 1)).length := by rw [hdrop]; rfl
            have hdl : (r.drop j).length - 1 = (r.drop (j + 1)).length := by rw [hdrop]; rfl
            refine ⟨⟨j + 1, (if d1 = 1 then some a else some (addN a (1 * 2))), d1 - 1, s', A', c'⟩, [0, 1, 2, 5], Sub.of (by decide) rfl ⟨rfl, rfl, ?_, rfl, rfl, ?_, rfl, rfl, trivial⟩, ⟨by simp only [htake]; exact hO', ?_, hjl, ?_, ?_⟩, ?_⟩
            · show Value.slice _ ((r.drop j).length - 1) _ = Value.slice _ (r.drop (j + 1)).length _
              rw [hdl]; rfl
            · show Value.slice A' ((r.take j).length + 1) c' = Value.slice A' (r.take (j + 1)).length c'
              rw [htake, List.length_append]; rfl
            · simp only
              by_cases hd1 : d1 = 1
              · rw [if_pos hd1]
                intro hne
                exact absurd (List.length_pos_iff.2 hne) (by rw [← hdl]; omega)
              · rw [if_neg hd1]
                exact row_tail (hdrop ▸ hrow9)
            · intro z hz
              simp only [htake] at hz
              rcases List.mem_append.1 hz with hz | hz
              · exact hdue z hz
              · obtain rfl := List.mem_singleton.1 hz
                exact of_decide_eq_true q2
            · show (r.drop (j + 1)).length ≤ d1 - 1
              rw [← hdl]; omega
            · show r.length - (j + 1) < r.length - j
              omega
          · conv => whnf
            refine ⟨⟨j, some a, d1, so, Ao, co⟩, [0, 1, 2, 3], Sub.of (by decide) rfl ⟨rfl, rfl, rfl, rfl, rfl, rfl, rfl, rfl, trivial⟩, ⟨hOo, hrow9, hj, hdue, hcp⟩, fun z hz => ?_⟩
            simp only at hz
            rw [hy] at hz
            obtain rfl := Option.some.inj hz
            have := of_decide_eq_false q2
            omega
        · conv => whnf
          refine ⟨⟨j, B1, d1, so, Ao, co⟩, [0, 1, 2, 3], Sub.of (by decide) rfl ⟨rfl, rfl, rfl, rfl, rfl, rfl, rfl, rfl, trivial⟩, ⟨hOo, hrow9, hj, hdue, hcp⟩, fun y hy => ?_⟩
          have h1 := (List.getElem?_eq_some_iff.1 hy).1
          have h2 := of_decide_eq_false q1
          rw [List.length_drop] at h2
          simp only at h1
          omega
      rintro ⟨j, B1, d1, so, Ao, co⟩ g9 hg9 ⟨⟨hOo, hrow9, hj, hdue, hcp⟩, hnext⟩
      simp only at hOo hrow9 hj hdue hnext hcp
      dsimp only
      refine COK.seq (vcC_ok _ _ _ _ _ ?_)
      conv => whnf
      refine OOK.call [1, 2] rfl rfl rfl (by kernel_rfl) rfl (f_pop g9 qb A c l r sl nw hown (by omega) hheap hperm hsort) (by decide) rfl ?_
      rintro v_ g10 m_ hg10 ⟨s', l', A2, c2, i', rfl, hO', hh', hp', rfl, hrow10, hd1, hd2, hi'⟩
      obtain rfl : i' = j := due_eq hi' hj hd1 hd2 hdue hnext
      rcases hOo with ⟨bd, h0⟩ | ⟨bo, co', resto, k1, k2⟩
      · conv => whnf
        refine OOK.call [] rfl rfl rfl (by kernel_rfl) rfl (f_equal g10 A2 none c2 0 (r.take i') hrow10 (fun h => absurd h0 h) (by rw [List.length_take]; omega)) (by decide) rfl ?_
        rintro v_ g11 m_ hg11 ⟨rfl, rfl⟩
        conv => whnf
        refine vcC_ok _ _ _ _ _ ?_
        conv => whnf
        refine ⟨fun q5 => absurd q5 (by decide), fun _ => ?_⟩
        conv => whnf
        exact ⟨⟨i, h8, l', r.drop i', s', A, c, B1, d1, nw⟩, [0, 1, 2], Sub.of (by decide) rfl ⟨rfl, rfl, rfl, rfl, rfl, rfl, rfl, trivial⟩,
          ⟨hh8.mono (hg9.trans (hg10.trans hg11)), hO', hh', hp', sorted_drop hsort i', hrow9.mono (hg10.trans hg11), ids_drop hids i', by show l'.length ≤ i + 1; rw [hp'.length_eq, List.length_drop]; omega, hcp⟩⟩
      · conv => whnf
        refine OOK.freeze 3 rfl rfl fun g11 hg11 hb11 => ?_
        refine OOK.call [] rfl rfl rfl (by kernel_rfl) rfl (f_equal g11 A2 (some ⟨bo, 0, none⟩) c2 _ (r.take i') (hrow10.mono hg11) (row_of hb11) (by rw [List.length_take]; omega)) (by decide) rfl ?_
        rintro v_ g12 m_ hg12 ⟨rfl, rfl⟩
        conv => whnf
        refine vcC_ok _ _ _ _ _ ?_
        conv => whnf
        refine ⟨fun q5 => absurd q5 (by decide), fun _ => ?_⟩
        conv => whnf
        exact ⟨⟨i, h8, l', r.drop i', s', A, c, B1, d1, nw⟩, [0, 1, 2], Sub.of (by decide) rfl ⟨rfl, rfl, rfl, rfl, rfl, rfl, rfl, trivial⟩,
          ⟨hh8.mono (hg9.trans ((hg10.trans hg11).trans hg12)), hO', hh', hp', sorted_drop hsort i', hrow9.mono ((hg10.trans hg11).trans hg12), ids_drop hids i', by show l'.length ≤ i + 1; rw [hp'.length_eq, List.length_drop]; omega, hcp⟩⟩
    · refine COK.seq (vcC_ok _ _ _ _ _ ?_)
      conv => whnf
      refine COK.cond rfl (fun q1 => ?_) (fun q1 => ?_)
      · refine vcC_ok _ _ _ _ _ ?_
        conv => whnf
        refine ⟨fun q2 => ?_, fun q2 => ?_⟩
        · obtain ⟨k, hk, rfl⟩ : ∃ k : Nat, r.findIdx? (·.id == id) = some k ∧ at_ = k := by
            rcases hat with h | ⟨_, rfl⟩
            · exact h
            · exact absurd (of_decide_eq_true q2) (by decide)
          have hkl := findIdx_lt hk
          conv => whnf
          refine OOK.call [] rfl rfl rfl (by kernel_rfl) rfl (f_clone g7 B d r hrow7 (by omega)) (by decide) rfl ?_
          rintro v_ g8 m_ hg8 ⟨A', c', rfl, hR⟩
          rcases hR with ⟨h1, _⟩ | ⟨b', rest, rfl, rfl, h1, h2, h3⟩
          · omega
          conv => whnf
          rw [i64_in (x := (k : Int) + 1) (by omega) (by omega)]
          refine OOK.call [4] rfl rfl rfl (by kernel_rfl) rfl (deleteItem Item.enc Item.len Item.one g8 b' c' r rest k hkl (by omega) h2 h3) (by decide) rfl ?_
          rintro v_ g9 m_ hg9 ⟨b2, c2, rest2, rfl, rfl, h4, h5⟩
          conv => whnf
          refine OOK.freeze 5 rfl rfl fun g10 hg10 hb10 => ?_
          refine OOK.call [1, 2] rfl rfl rfl (by kernel_rfl) rfl (f_cancel g10 qb A c l sl id hown (by omega) hheap) (by decide) rfl ?_
          rintro v_ g11 m_ hg11 (⟨hf, rfl, rfl⟩ | ⟨kl, s', l', hf, rfl, rfl, hO', hp', hh'⟩)
          · rw [(find_perm hperm).1 hf] at hk; cases hk
          · conv => whnf
            refine ⟨fun q3 => absurd q3 (by simp), fun _ => ?_⟩
            conv => whnf
            exact ⟨⟨i, h7, l', r.eraseIdx k, s', A, c, some ⟨b2, 0, none⟩, c2, now⟩, [0, 1, 2], Sub.of (by decide) rfl ⟨rfl, rfl, rfl, rfl, rfl, rfl, rfl, trivial⟩,
              ⟨hh7.mono (((hg8.trans hg9).trans hg10).trans hg11), hO', hh', hp'.trans (cancel_perm hperm hids hf hk), sorted_erase hsort k, (row_of (rest := rest2) (el := 29) hb10).mono hg11, ids_erase hids k, by have := hp'.length_eq; have := List.length_eraseIdx_le l kl; show l'.length ≤ i + 1; omega, h5⟩⟩
        · obtain ⟨hk, rfl⟩ : r.findIdx? (·.id == id) = none ∧ at_ = -1 := by
            rcases hat with ⟨k, _, rfl⟩ | h
            · exact absurd (of_decide_eq_false q2) (by omega)
            · exact h
          conv => whnf
          refine OOK.call [1, 2] rfl rfl rfl (by kernel_rfl) rfl (f_cancel g7 qb A c l sl id hown (by omega) hheap) (by decide) rfl ?_
          rintro v_ g8 m_ hg8 (⟨hf, rfl, rfl⟩ | ⟨kl, s', l', hf, rfl, rfl, hO', hp', hh'⟩)
          · conv => whnf
            refine ⟨fun q3 => absurd q3 (by decide), fun _ => ?_⟩
            conv => whnf
            exact ⟨⟨i, h7, l, r, sl, A, c, B, d, now⟩, [0, 1, 2], Sub.of (by decide) rfl ⟨rfl, rfl, rfl, rfl, rfl, rfl, rfl, trivial⟩,
              ⟨hh7.mono hg8, hown, hheap, hperm, hsort, hrow7.mono hg8, hids, by show l.length ≤ i + 1; omega, hcap⟩⟩
          · rw [(find_perm hperm).2 hk] at hf; cases hf
      · refine COK.seq (COK.cut (α := Hd × Int × Nat) (fun x => [(3, .own 0 0), (4, .val (.pointer (some ⟨qb, 0, none⟩))), (5, .val (.slice B r.length d)), (6, .val (.func (.func 6) #[] #[])), (7, .val (.int .i64 now)), (9, .val (.int .i64 at_)), (11, .own 3 0), (24, .val (.int .i64 N)), (25, .val (.int .i64 i))])
          (fun x => [x.1.slot hB, qBox qb A l.length c, sl, ⟨x.2.2, .cells [.int .i64 x.2.1, .int .i64 id] 29 (0, 0)⟩]) (fun x g => x.1.ok g) ?_ ?_)
        · refine COK.draw [3] (by kernel_rfl) (by kernel_rfl) ?_
          conv => whnf
          refine ⟨?_, ?_⟩
          · conv => whnf
            refine OOK.call [0] rfl rfl rfl (by kernel_rfl) rfl (hand_n g7 hB h7 30 hh7 (by omega) (by omega)) (by decide) rfl ?_
            rintro v_ g8 m_ hg8 ⟨u8, h8, rfl, u80, u81, hnh8, hh8, rfl⟩
            conv => whnf
            refine ⟨⟨rfl, rfl, rfl, rfl, trivial⟩, ?_⟩
            conv => whnf
            intro xb
            conv => whnf
            refine ⟨⟨rfl, rfl, rfl, rfl, trivial⟩, ?_⟩
            conv => whnf
            refine ⟨⟨rfl, rfl, rfl, rfl, trivial⟩, ?_⟩
            conv => whnf
            exact ⟨(h8, _, xb), [0, 1, 2, 4], Sub.of (by decide) rfl ⟨rfl, rfl, rfl, rfl, rfl, rfl, rfl, rfl, rfl, trivial⟩, hh8⟩
          · conv => whnf
            intro xb
            conv => whnf
            refine ⟨⟨rfl, rfl, rfl, rfl, trivial⟩, ?_⟩
            conv => whnf
            refine OOK.call [0] rfl rfl rfl (by kernel_rfl) rfl (hand_n g7 hB h7 30 hh7 (by omega) (by omega)) (by decide) rfl ?_
            rintro v_ g8 m_ hg8 ⟨u8, h8, rfl, u80, u81, hnh8, hh8, rfl⟩
            conv => whnf
            refine ⟨⟨rfl, rfl, rfl, rfl, trivial⟩, ?_⟩
            conv => whnf
            refine ⟨⟨rfl, rfl, rfl, rfl, trivial⟩, ?_⟩
            conv => whnf
            exact ⟨(h8, _, xb), [0, 1, 2, 4], Sub.of (by decide) rfl ⟨rfl, rfl, rfl, rfl, rfl, rfl, rfl, rfl, rfl, trivial⟩, hh8⟩
        rintro ⟨h8, d8, xb⟩ g8 hg8 hh8
        simp only at hh8
        dsimp only
        refine COK.seq (COK.cut (α := Hd × Int) (fun x => [(3, .own 0 0), (4, .val (.pointer (some ⟨qb, 0, none⟩))), (5, .val (.slice B r.length d)), (6, .val (.func (.func 6) #[] #[])), (7, .val (.int .i64 now)), (9, .val (.int .i64 at_)), (11, .own 3 0), (24, .val (.int .i64 N)), (25, .val (.int .i64 i))])
          (fun x => [x.1.slot hB, qBox qb A l.length c, sl, ⟨xb, .cells [.int .i64 x.2, .int .i64 id] 29 (0, 0)⟩]) (fun x g => x.1.ok g) ?_ ?_)
        · refine COK.seq (vcC_ok _ _ _ _ _ ?_)
          conv => whnf
          refine OOK.call [0] rfl rfl rfl (by kernel_rfl) rfl (hand_n g8 hB h8 9 hh8 (by omega) (by omega)) (by decide) rfl ?_
          rintro v_ g9 m_ hg9 ⟨u9, h9, rfl, u90, u91, hnh9, hh9, rfl⟩
          conv => whnf
          refine vcC_ok _ _ _ _ _ ?_
          conv => whnf
          refine ⟨fun q2 => ?_, fun q2 => ?_⟩
          · conv => whnf
            refine OOK.call [0] rfl rfl rfl (by kernel_rfl) rfl (f_word g9 hB h9 hh9) (by decide) rfl ?_
            rintro v_ g10 m_ hg10 ⟨wd, h10, rfl, hh10, rfl⟩
            conv => whnf
            exact ⟨(h10, wd), [0, 1, 2, 3], Sub.of (by decide) rfl ⟨rfl, rfl, rfl, rfl, rfl, rfl, rfl, rfl, rfl, trivial⟩, hh10⟩
          · conv => whnf
            exact ⟨(h9, d8), [0, 1, 2, 3], Sub.of (by decide) rfl ⟨rfl, rfl, rfl, rfl, rfl, rfl, rfl, rfl, rfl, trivial⟩, hh9⟩
        rintro ⟨h9, d9⟩ g9 hg9 hh9
        simp only at hh9
        dsimp only
        have hrow9 := hrow7.mono (hg8.trans hg9)
        rcases hat with ⟨k, hk, rfl⟩ | ⟨hk, rfl⟩
        · refine vcC_ok _ _ _ _ _ ?_
          conv => whnf
          refine ⟨fun q2 => absurd (of_decide_eq_true q2) (by omega), fun _ => ?_⟩
          conv => whnf
          refine OOK.call [1, 2] rfl rfl rfl (by kernel_rfl) rfl (f_add g9 qb A c l sl ⟨d9, id⟩ hown (by omega) hheap) (by decide) rfl ?_
          rintro v_ g10 m_ hg10 (⟨hf, rfl, rfl⟩ | ⟨hf, _⟩)
          · conv => whnf
            refine ⟨fun q3 => absurd q3 (by decide), fun _ => ?_⟩
            conv => whnf
            exact ⟨⟨i, h9, l, r, sl, A, c, B, d, now⟩, [0, 1, 2], Sub.of (by decide) rfl ⟨rfl, rfl, rfl, rfl, rfl, rfl, rfl, trivial⟩,
              ⟨hh9.mono hg10, hown, hheap, hperm, hsort, hrow9.mono hg10, hids, by show l.length ≤ i + 1; omega, hcap⟩⟩
          · exfalso
            obtain ⟨y, hy, ey⟩ := find_some hk
            have := List.any_eq_false.1 hf y (hperm.mem_iff.2 (List.mem_of_getElem? hy))
            simp [ey] at this
        · have hno : ∀ y ∈ r, y.id ≠ (Item.mk d9 id).id := find_none.1 hk
          refine vcC_ok _ _ _ _ _ ?_
          conv => whnf
          refine ⟨fun _ => ?_, fun q2 => absurd q2 (by decide)⟩
          conv => whnf
          refine OOK.call [] rfl rfl rfl (by kernel_rfl) rfl (f_search g9 B d r ⟨d9, id⟩ hrow9 (by omega) hsort hno) (by decide) rfl ?_
          rintro v_ g10 m_ hg10 ⟨rfl, k, bb, rfl, hkl, hk1, hk2⟩
          have hrow10 := hrow9.mono hg10
          conv => whnf
          refine COK.cut (α := Nat × Nat) (fun x => [(3, .own 0 0), (4, .val (.pointer (some ⟨qb, 0, none⟩))), (5, .val (.slice (some ⟨x.1, 0, none⟩) (r.length + 1) x.2)), (6, .val (.func (.func 6) #[] #[])), (7, .val (.int .i64 now)), (11, .own 3 0), (12, .val (.int .i64 0)), (24, .val (.int .i64 N)), (25, .val (.int .i64 i))])
            (fun x => [h9.slot hB, qBox qb A l.length c, sl, ⟨xb, .cells [.int .i64 d9, .int .i64 id] 29 (0, 0)⟩]) (fun x g => Row g Item.enc (some ⟨x.1, 0, none⟩) (insAt r k ⟨d9, id⟩) ∧ r.length + 1 ≤ x.2) ?_ ?_
          · refine COK.draw [3] (by kernel_rfl) (by kernel_rfl) ?_
            conv => whnf
            refine ⟨?_, ?_⟩
            · conv => whnf
              refine OOK.call [] rfl rfl rfl (by kernel_rfl) rfl (f_clone g10 B d r hrow10 (by omega)) (by decide) rfl ?_
              rintro v_ g11 m_ hg11 ⟨A', c', rfl, hR⟩
              rcases hR with ⟨hn0, rfl, _, rfl⟩ | ⟨b', rest, rfl, rfl, hq1, hq2, hq3⟩
              · conv => whnf
                obtain rfl : r = [] := List.length_eq_zero_iff.1 hn0
                obtain rfl : k = 0 := by simpa using hkl
                refine ⟨⟨rfl, rfl, rfl, rfl, trivial⟩, ?_⟩
                conv => whnf
                intro vb
                conv => whnf
                refine ⟨⟨rfl, rfl, rfl, rfl, trivial⟩, ?_⟩
                conv => whnf
                refine OOK.call [4] rfl rfl rfl (by kernel_rfl) rfl (f_insert0 g11 A' vb ⟨d9, id⟩) (by decide) rfl ?_
                rintro v_ g12 m_ hg12 ⟨b2, c2, s0, rfl, hrow12, hc2, rfl⟩
                conv => whnf
                refine ⟨⟨rfl, rfl, rfl, rfl, trivial⟩, ?_⟩
                conv => whnf
                exact ⟨(b2, c2), [0, 1, 2, 3], Sub.of (by decide) rfl ⟨rfl, rfl, rfl, rfl, rfl, rfl, rfl, rfl, rfl, trivial⟩, hrow12, hc2⟩
              · conv => whnf
                refine ⟨⟨rfl, rfl, rfl, rfl, trivial⟩, ?_⟩
                conv => whnf
                intro vb
                conv => whnf
                refine ⟨⟨rfl, rfl, rfl, rfl, trivial⟩, ?_⟩
                conv => whnf
                refine OOK.call [4, 5] rfl rfl rfl (by kernel_rfl) rfl (f_insert g11 b' vb c' r rest k ⟨d9, id⟩ hkl (by omega) hq2 hq3) (by decide) rfl ?_
                rintro v_ g12 m_ hg12 ⟨b2, c2, s0, s1, rfl, hrow12, hc2, rfl⟩
                conv => whnf
                refine ⟨⟨rfl, rfl, rfl, rfl, trivial⟩, ?_⟩
                conv => whnf
                exact ⟨(b2, c2), [0, 1, 2, 3], Sub.of (by decide) rfl ⟨rfl, rfl, rfl, rfl, rfl, rfl, rfl, rfl, rfl, trivial⟩, hrow12, hc2⟩
            · conv => whnf
              intro vb
              conv => whnf
              refine ⟨⟨rfl, rfl, rfl, rfl, trivial⟩, ?_⟩
              conv => whnf
              refine OOK.call [] rfl rfl rfl (by kernel_rfl) rfl (f_clone g10 B d r hrow10 (by omega)) (by decide) rfl ?_
              rintro v_ g11 m_ hg11 ⟨A', c', rfl, hR⟩
              rcases hR with ⟨hn0, rfl, _, rfl⟩ | ⟨b', rest, rfl, rfl, hq1, hq2, hq3⟩
              · conv => whnf
                obtain rfl : r = [] := List.length_eq_zero_iff.1 hn0
                obtain rfl : k = 0 := by simpa using hkl
                refine ⟨⟨rfl, rfl, rfl, rfl, trivial⟩, ?_⟩
                conv => whnf
                refine OOK.call [4] rfl rfl rfl (by kernel_rfl) rfl (f_insert0 g11 A' vb ⟨d9, id⟩) (by decide) rfl ?_
                rintro v_ g12 m_ hg12 ⟨b2, c2, s0, rfl, hrow12, hc2, rfl⟩
                conv => whnf
                refine ⟨⟨rfl, rfl, rfl, rfl, trivial⟩, ?_⟩
                conv => whnf
                exact ⟨(b2, c2), [0, 1, 2, 3], Sub.of (by decide) rfl ⟨rfl, rfl, rfl, rfl, rfl, rfl, rfl, rfl, rfl, trivial⟩, hrow12, hc2⟩
              · conv => whnf
                refine ⟨⟨rfl, rfl, rfl, rfl, trivial⟩, ?_⟩
                conv => whnf
                refine OOK.call [5, 4] rfl rfl rfl (by kernel_rfl) rfl (f_insert g11 b' vb c' r rest k ⟨d9, id⟩ hkl (by omega) hq2 hq3) (by decide) rfl ?_
                rintro v_ g12 m_ hg12 ⟨b2, c2, s0, s1, rfl, hrow12, hc2, rfl⟩
                conv => whnf
                refine ⟨⟨rfl, rfl, rfl, rfl, trivial⟩, ?_⟩
                conv => whnf
                exact ⟨(b2, c2), [0, 1, 2, 3], Sub.of (by decide) rfl ⟨rfl, rfl, rfl, rfl, rfl, rfl, rfl, rfl, rfl, trivial⟩, hrow12, hc2⟩
          rintro ⟨B2, c2⟩ g11 hg11 ⟨hrow11, hcap11⟩
          simp only at hrow11 hcap11
          conv => whnf
          refine OOK.call [1, 2] rfl rfl rfl (by kernel_rfl) rfl (f_add g11 qb A c l sl ⟨d9, id⟩ hown (by omega) hheap) (by decide) rfl ?_
          rintro v_ g12 m_ hg12 (⟨hf, _⟩ | ⟨hf, rfl, dd, s', A', c', l', rfl, hO', hp', hh'⟩)
          · exfalso
            obtain ⟨y, hy, ey⟩ := List.any_eq_true.1 hf
            exact hno y (hperm.mem_iff.1 hy) (eq_of_beq ey)
          · conv => whnf
            refine ⟨fun q3 => absurd q3 (by decide), fun _ => ?_⟩
            conv => whnf
            have hil : (insAt r k ⟨d9, id⟩).length = r.length + 1 := by rw [(ins_perm r k ⟨d9, id⟩).length_eq, List.length_append]; rfl
            refine ⟨⟨i, h9, l', insAt r k ⟨d9, id⟩, s', A', c', some ⟨B2, 0, none⟩, c2, now⟩, [0, 1, 4], Sub.of (by decide) rfl ⟨rfl, rfl, ?_, rfl, rfl, rfl, rfl, trivial⟩,
              ⟨hh9.mono ((hg10.trans hg11).trans hg12), hO', hh', hp'.trans ((hperm.append_right _).trans (ins_perm r k ⟨d9, id⟩).symm), sorted_ins hsort hno hk1 hk2, hrow11.mono hg12, ids_ins k hids hno, by show l'.length ≤ i + 1; rw [hp'.length_eq, List.length_append]; show l.length + 1 ≤ i + 1; omega, by rw [hil]; exact hcap11⟩⟩
            show Value.slice _ (r.length + 1) _ = Value.slice _ (insAt r k ⟨d9, id⟩).length _
            rw [hil]
  rintro ⟨i', h8, l8, r8, s8, A8, c8, B8, d8, now8⟩ g8 hg8 ⟨hh8, hown8, hheap8, hperm8, hsort8, hrow8, hids8, hlen8, hcap8⟩
  simp only at hh8 hown8 hheap8 hperm8 hsort8 hrow8 hids8 hlen8 hcap8
  dsimp only
  have hl8 : l8.length = r8.length := hperm8.length_eq
  refine COK.seq (vcC_ok _ _ _ _ _ ?_)
  conv => whnf
  refine OOK.call [1, 2] rfl rfl rfl (by kernel_rfl) rfl (f_next g8 qb A8 c8 l8 s8 hown8 (by omega)) (by decide) rfl ?_
  rintro v_ g9 m_ hg9 ⟨rfl, hnx⟩
  obtain ⟨fx, is_, rfl, hnx2⟩ : ∃ (x : Item) (b : Bool), v_ = .tuple #[.agg x.enc.toArray, .bool b] ∧ ((l8 = [] ∧ b = false) ∨ (l8[0]? = some x ∧ b = true)) := by
    rcases hnx with ⟨h1, h2⟩ | ⟨x, h1, h2⟩
    · exact ⟨⟨0, 0⟩, false, h2, .inl ⟨h1, rfl⟩⟩
    · exact ⟨x, true, h2, .inr ⟨h1, rfl⟩⟩
  conv => whnf
  intro xb
  conv => whnf
  have hnel : ((l8.length : Int) != (r8.length : Int)) = false := by rw [hl8]; simp
  have hi25 : IntKind.i64.wrap ((i : Int) + 1) = ((i + 1 : Nat) : Int) := i64_in (by omega) (by omega)
  clear hnx
  rcases hnx2 with ⟨rfl, rfl⟩ | ⟨hx0, rfl⟩
  · have hr0 : r8 = [] := List.length_eq_zero_iff.1 (by rw [← hl8]; rfl)
    subst hr0
    refine COK.seq (COK.draw [3] (by kernel_rfl) (by kernel_rfl) ?_)
    conv => whnf
    refine OOK.call [1] rfl rfl rfl (by kernel_rfl) rfl (f_len g9 qb A8 0 c8) (by decide) rfl ?_
    rintro v_ g10 m_ hg10 ⟨rfl, rfl⟩
    conv => whnf
    refine ⟨⟨rfl, rfl, rfl, rfl, trivial⟩, ?_⟩
    conv => whnf
    refine ⟨fun q3 => absurd (hnel.symm.trans q3) (by decide), fun _ => ?_⟩
    conv => whnf
    refine ⟨fun q4 => absurd q4 (by decide), fun _ => ?_⟩
    conv => whnf
    refine ⟨fun q4 => absurd q4 (by decide), fun _ => ?_⟩
    conv => whnf
    refine OOK.call [1, 2] rfl rfl rfl (by kernel_rfl) rfl (f_items g10 qb A8 c8 [] [] s8 hown8 (by decide) hperm8 hsort8) (by decide) rfl ?_
    rintro v_ g11 m_ hg11 ⟨A2, c2, rfl, hrowI, rfl⟩
    conv => whnf
    refine ⟨⟨rfl, rfl, rfl, rfl, trivial⟩, ?_⟩
    conv => whnf
    refine OOK.call [] rfl rfl rfl (by kernel_rfl) rfl (f_equal g11 A2 B8 c2 d8 [] hrowI (hrow8.mono ((hg9.trans hg10).trans hg11)) (by decide)) (by decide) rfl ?_
    rintro v_ g12 m_ hg12 ⟨rfl, rfl⟩
    conv => whnf
    refine ⟨⟨rfl, rfl, rfl, rfl, trivial⟩, ?_⟩
    conv => whnf
    refine vcC_ok _ _ _ _ _ ?_
    conv => whnf
    refine ⟨fun q5 => absurd q5 (by decide), fun _ => ?_⟩
    conv => whnf
    refine vcC_ok _ _ _ _ _ ?_
    conv => whnf
    exact ⟨⟨i + 1, h8, [], [], s8, A8, c8, B8, d8, now8⟩, [0, 1, 2], Sub.of (by decide) rfl ⟨rfl, rfl, rfl, rfl, rfl, rfl, int_eq hi25, trivial⟩, ⟨by show ((i + 1 : Nat) : Int) ≤ N; omega,
      ⟨hh8.mono (((hg9.trans hg10).trans hg11).trans hg12), hown8, hheap8, hperm8, hsort8, hrow8.mono (((hg9.trans hg10).trans hg11).trans hg12), hids8, hlen8, hcap8⟩⟩, by show (N - ((i + 1 : Nat) : Int)).toNat < (N - (i : Int)).toNat; omega⟩
  · have hpos : 0 < r8.length := by rw [← hl8]; exact (List.getElem?_eq_some_iff.1 hx0).1
    obtain ⟨y, hy⟩ : ∃ y, r8[0]? = some y := ⟨_, List.getElem?_eq_getElem hpos⟩
    obtain rfl := head_eq hheap8 hperm8 hsort8 hx0 hy
    obtain ⟨a, rfl, hr⟩ := (hrow8.mono hg9).at_ Item.len hy
    refine COK.seq (COK.draw [3] (by kernel_rfl) (by kernel_rfl) ?_)
    conv => whnf
    refine OOK.call [1] rfl rfl rfl (by kernel_rfl) rfl (f_len g9 qb A8 l8.length c8) (by decide) rfl ?_
    rintro v_ g10 m_ hg10 ⟨rfl, rfl⟩
    conv => whnf
    refine ⟨⟨rfl, rfl, rfl, rfl, trivial⟩, ?_⟩
    conv => whnf
    refine ⟨fun q3 => absurd (hnel.symm.trans q3) (by decide), fun _ => ?_⟩
    conv => whnf
    have hgt : decide ((r8.length : Int) > 0) = true := decide_eq_true (by omega)
    refine ⟨fun q4 => absurd q4 (by rw [hgt]; decide), fun _ => ?_⟩
    conv => whnf
    refine ⟨fun _ => ?_, fun q5 => absurd q5 (by decide)⟩
    conv => whnf
    refine ⟨⟨Int.le_refl _, by omega⟩, ?_⟩
    conv => whnf
    refine YN.loads rfl rfl rfl (by simpa [addN] using hr) ?_
    conv => whnf
    refine YN.neqAgg rfl rfl rfl Try.underlying29 Try.stoodInHeld29 Try.eqGuardType29 (by kernel_rfl) rfl ?_
    conv => whnf
    have hke : ((fx.due == fx.due) && ((fx.id == fx.id) && true)) = true := by simp
    refine ⟨fun q => absurd ((congrArg Bool.not hke).symm.trans q) (by decide), fun _ => ?_⟩
    conv => whnf
    refine OOK.call [1, 2] rfl rfl rfl (by kernel_rfl) rfl (f_items g10 qb A8 c8 l8 r8 s8 hown8 (by omega) hperm8 hsort8) (by decide) rfl ?_
    rintro v_ g11 m_ hg11 ⟨A2, c2, rfl, hrowI, rfl⟩
    conv => whnf
    refine ⟨⟨rfl, rfl, rfl, rfl, trivial⟩, ?_⟩
    conv => whnf
    refine OOK.call [] rfl rfl rfl (by kernel_rfl) rfl (f_equal g11 A2 (some a) c2 d8 r8 hrowI (hrow8.mono ((hg9.trans hg10).trans hg11)) (by omega)) (by decide) rfl ?_
    rintro v_ g12 m_ hg12 ⟨rfl, rfl⟩
    conv => whnf
    refine ⟨⟨rfl, rfl, rfl, rfl, trivial⟩, ?_⟩
    conv => whnf
    refine vcC_ok _ _ _ _ _ ?_
    conv => whnf
    refine ⟨fun q5 => absurd q5 (by decide), fun _ => ?_⟩
    conv => whnf
    refine vcC_ok _ _ _ _ _ ?_
    conv => whnf
    exact ⟨⟨i + 1, h8, l8, r8, s8, A8, c8, (some a), d8, now8⟩, [0, 1, 2], Sub.of (by decide) rfl ⟨rfl, rfl, rfl, rfl, rfl, rfl, int_eq hi25, trivial⟩, ⟨by show ((i + 1 : Nat) : Int) ≤ N; omega,
      ⟨hh8.mono (((hg9.trans hg10).trans hg11).trans hg12), hown8, hheap8, hperm8, hsort8, hrow8.mono (((hg9.trans hg10).trans hg11).trans hg12), hids8, hlen8, hcap8⟩⟩, by show (N - ((i + 1 : Nat) : Int)).toNat < (N - (i : Int)).toNat; omega⟩
end Go.Proofs.Ytnkfpapegknlfaa
