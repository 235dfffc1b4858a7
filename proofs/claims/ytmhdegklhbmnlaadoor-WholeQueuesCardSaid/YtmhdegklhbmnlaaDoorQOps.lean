/- WholeQueues: the queue's operations. -/
import Derived.Test.YtmhdegklhbmnlaaDoorQSlices
set_option linter.unusedVariables false
set_option maxRecDepth 100000
namespace Go.Proofs.YtmhdegklhbmnlaaDoor
open Go Go.SX

/-- What is one's own of a row: nothing where there is no room. -/
def OwnRow (el size : Nat) (A : Option Addr) (n c : Nat) (cs : List Value) (M : Mem) : Prop :=
  (n = 0 ∧ c = 0 ∧ cs = [] ∧ M = []) ∨ ∃ (b : Nat) (rest : List Value), A = some ⟨b, 0, none⟩ ∧ M = [⟨b, .cells (cs ++ rest) el (0, 0)⟩] ∧ cs.length = n * size ∧ (cs ++ rest).length = c * size ∧ n ≤ c
theorem Item.one (x : Item) : ∀ v ∈ x.enc, v.oneCell' = true := by
  intro v hv
  simp only [Item.enc, List.mem_cons, List.not_mem_nil, or_false] at hv
  rcases hv with rfl | rfl | rfl | rfl | rfl | rfl | rfl | rfl | rfl | rfl | rfl | rfl | rfl <;> rfl
theorem Own.one (x : Own) : ∀ v ∈ x.enc, v.oneCell' = true := by
  intro v hv
  simp only [Own.enc, List.mem_cons, List.not_mem_nil, or_false] at hv
  rcases hv with rfl | rfl | rfl | rfl | rfl | rfl | rfl | rfl | rfl | rfl | rfl | rfl <;> rfl

theorem f_clone (g : GH) (A : Option Addr) (c : Nat) (l : List Item) (hA : Row g Item.enc A l) (hl : l.length ≤ 100000) :
    Tri Tryd.prog 30 [.slice A l.length c] g [] fun v g' m' => ∃ A' c', v = .slice A' l.length c' ∧ OwnRow 42 13 A' l.length c' (l.flatMap Item.enc) m' := by
  have hlen := flat_len Item.len l
  refine Tri.vc [.val (.slice A l.length c)] Tryd.func30 rfl Tryd.ntmps30 rfl rfl ?_
  cases A with
  | none =>
    have : l = [] := by
      cases l with
      | nil => rfl
      | cons x r => obtain ⟨a, h, _⟩ := hA (by simp); cases h
    subst this
    conv => whnf
    refine ⟨fun _ => ?_, fun q => by cases q⟩
    conv => whnf
    exact .mk ⟨_, [], _, rfl, by decide, rfl, trivial, none, 0, rfl, .inl ⟨rfl, rfl, rfl, rfl⟩⟩
  | some a =>
    conv => whnf
    refine ⟨(by intro q; cases q), fun _ => ?_⟩
    conv => whnf
    intro b
    conv => whnf
    by_cases h0 : l = []
    · subst h0
      refine OOK.appendNone rfl rfl rfl rfl (.inl ⟨_, rfl⟩) rfl (size := 13) (bytes := 136) rfl rfl (Src.nil') ?_
      conv => whnf
      exact .mk ⟨_, [], _, rfl, by decide, rfl, trivial, _, 0, rfl, .inl ⟨rfl, rfl, rfl, rfl⟩⟩
    · obtain ⟨a', ha, hr⟩ := hA h0
      obtain rfl := Option.some.inj ha
      have hpos : 0 < l.length := List.length_pos_iff.2 h0
      refine OOK.appendNew (old := []) (ys := l.flatMap Item.enc) (k := l.length) rfl rfl rfl rfl (.inl ⟨_, rfl⟩) rfl (size := 13) (bytes := 136) rfl rfl rfl (by decide) rfl Src.nil' rfl hlen (by omega) (Src.reads hlen hr) (by omega) ?_
      intro b' c' rest hle hlc
      conv => whnf
      exact .mk ⟨_, [1], _, rfl, by decide, rfl, trivial, some ⟨b', 0, none⟩, c', by rw [Nat.zero_add]; rfl, .inr ⟨b', rest, rfl, rfl, hlen, by simpa using hlc, by omega⟩⟩
theorem f_copied (g : GH) (A : Option Addr) (c : Nat) (l : List Item) (tok : Int) (hA : Row g Item.enc A l) (hl : l.length ≤ 100000) :
    Tri Tryd.prog 20 [.agg #[.slice A l.length c, .int .i64 tok]] g [] fun v g' m' => ∃ A' c', v = .agg #[.slice A' l.length c', .int .i64 tok] ∧ OwnRow 42 13 A' l.length c' (l.flatMap Item.enc) m' := by
  refine Tri.vc [.val (.agg #[.slice A l.length c, .int .i64 tok])] Tryd.func20 rfl Tryd.ntmps20 rfl rfl ?_
  conv => whnf
  intro b1
  conv => whnf
  intro b2
  conv => whnf
  refine OOK.call [] rfl rfl rfl (by kernel_rfl) rfl (f_clone g A c l hA hl) (by decide) rfl ?_
  rintro v g' m' hg ⟨A', c', rfl, hO⟩
  rcases hO with ⟨h1, h2, h3, rfl⟩ | ⟨b, rest, rfl, rfl, h3, h4, h5⟩
  · conv => whnf
    exact .mk ⟨_, [], _, rfl, by decide, rfl, trivial, _, _, rfl, .inl ⟨h1, h2, h3, rfl⟩⟩
  · conv => whnf
    exact .mk ⟨_, [2], _, rfl, by decide, rfl, trivial, _, _, rfl, .inr ⟨b, rest, rfl, rfl, h3, h4, h5⟩⟩
/-- The queue's items, known for good. -/
theorem f_held (g : GH) (A : Option Addr) (c : Nat) (l : List Item) (qt tok : Int) (hA : Row g Item.enc A l) (hl : l.length ≤ 100000) (ht : 1 ≤ tok) :
    Tri Tryd.prog 26 [.agg #[.slice A l.length c, .int .i64 qt], .int .i64 tok] g [] fun v g' m' => m' = [] ∧ ((∃ k, l.findIdx? (·.token == tok) = some k ∧ v = .int .i64 (k : Int)) ∨ (l.findIdx? (·.token == tok) = none ∧ v = .int .i64 (-1))) := by
  refine Tri.vc [.val (.agg #[.slice A l.length c, .int .i64 qt]), .val (.int .i64 tok)] Tryd.func26 rfl Tryd.ntmps26 rfl rfl ?_
  conv => whnf
  intro b1
  conv => whnf
  intro b2
  conv => whnf
  refine ⟨fun q => absurd (of_decide_eq_true q) (by omega), fun _ => ?_⟩
  conv => whnf
  refine OOK.call [1] rfl rfl rfl (by kernel_rfl) rfl (indexItem Item.enc Item.len g [intBox b2 tok] A c l _ _ (·.token == tok) hA (by omega) (by kernel_rfl) fun g' hg x hx => c_itok g' b2 tok x) (by decide) rfl ?_
  rintro v g' m' hg ⟨rfl, hv⟩
  rcases hv with ⟨k, hk, rfl⟩ | ⟨hk, rfl⟩
  · conv => whnf
    exact .mk ⟨_, [], _, rfl, by decide, rfl, trivial, rfl, .inl ⟨k, hk, rfl⟩⟩
  · conv => whnf
    exact .mk ⟨_, [], _, rfl, by decide, rfl, trivial, rfl, .inr ⟨hk, rfl⟩⟩
/-- From a row of one's own to one that is known for good. -/
theorem f_ack (g : GH) (A : Option Addr) (c : Nat) (l : List Item) (qt tok : Int) (hA : Row g Item.enc A l) (hl : l.length ≤ 10000) (ht : 1 ≤ tok) :
    Tri Tryd.prog 15 [.agg #[.slice A l.length c, .int .i64 qt], .int .i64 tok] g [] fun v g' m' => m' = [] ∧
      ((∃ k A' c', l.findIdx? (·.token == tok) = some k ∧ v = .tuple #[.agg #[.slice A' (l.eraseIdx k).length c', .int .i64 qt], .int .i64 0] ∧ Row g' Item.enc A' (l.eraseIdx k)) ∨ (l.findIdx? (·.token == tok) = none ∧ v = .tuple #[.agg #[.slice none 0 0, .int .i64 0], .int .i64 24])) := by
  refine Tri.vc [.val (.agg #[.slice A l.length c, .int .i64 qt]), .val (.int .i64 tok)] Tryd.func15 rfl Tryd.ntmps15 rfl rfl ?_
  conv => whnf
  intro b1
  conv => whnf
  intro b2
  conv => whnf
  refine OOK.call [] rfl rfl rfl (by kernel_rfl) rfl (f_held g A c l qt tok hA (by omega) ht) (by decide) rfl ?_
  rintro v g' m' hg ⟨rfl, hv⟩
  rcases hv with ⟨k, hk, rfl⟩ | ⟨hk, rfl⟩
  · conv => whnf
    refine ⟨fun q => absurd (of_decide_eq_true q) (by omega), fun _ => ?_⟩
    conv => whnf
    refine OOK.call [] rfl rfl rfl (by kernel_rfl) rfl (f_copied g' A c l qt (hA.mono hg) (by omega)) (by decide) rfl ?_
    rintro v g2 m2 hg2 ⟨A', c', rfl, hO⟩
    have hkl : k < l.length := by
      have := (List.findIdx?_eq_some_iff_getElem.1 hk).1
      exact this
    rcases hO with ⟨h1, h2, h3, rfl⟩ | ⟨b, rest, rfl, rfl, h3, h4, h5⟩
    · omega
    · conv => whnf
      refine OOK.call [2] rfl rfl rfl (by kernel_rfl) (args := [.slice (some ⟨b, 0, none⟩) l.length c', .int .i64 (k : Int), .int .i64 ((k : Int) + 1)]) (by show [_, _, Value.int .i64 (IntKind.i64.wrap ((k : Int) + 1))] = _; rw [i64_in (by omega) (by omega)]) (deleteItem Item.enc Item.len Item.one g2 b c' l rest k hkl (by omega) h4 h5) (by decide) rfl ?_
      rintro v g3 m3 hg3 ⟨b', c2, rest', rfl, rfl, h6, h7⟩
      conv => whnf
      refine .freeze 3 rfl rfl fun g4 hg4 hb4 => ?_
      exact .mk ⟨_, [], _, rfl, by decide, rfl, trivial, rfl, .inl ⟨k, _, _, hk, rfl, row_of hb4⟩⟩
  · conv => whnf
    refine ⟨fun _ => ?_, fun q => absurd (of_decide_eq_false q) (by omega)⟩
    conv => whnf
    exact .mk ⟨_, [], _, rfl, by decide, rfl, trivial, rfl, .inr ⟨hk, rfl⟩⟩
/-- One element turned. -/
def Item.zero : Item := ⟨⟨0, 0, 0, 0, 0, 0, noStr, noStr, noStr⟩, noStr, 0, 0, 0⟩
def Item.lease (x : Item) (holder : ByteArray) (token until_ tries : Int) : Item := ⟨x.t, holder, token, until_, tries⟩
theorem f_extend (g : GH) (A : Option Addr) (c : Nat) (l : List Item) (qt tok now ttl : Int) (hA : Row g Item.enc A l) (hl : l.length ≤ 10000) (ht : 1 ≤ tok) (h1 : 0 ≤ now) (h2 : now ≤ 1000000) (h3 : 1 ≤ ttl) (h4 : ttl ≤ 1000000) :
    Tri Tryd.prog 16 [.agg #[.slice A l.length c, .int .i64 qt], .int .i64 tok, .int .i64 now, .int .i64 ttl] g [] fun v g' m' => m' = [] ∧
      ((∃ k x A' c', l.findIdx? (·.token == tok) = some k ∧ l[k]? = some x ∧ x.holder ≠ noStr ∧ now < x.until_ ∧ v = .tuple #[.agg #[.slice A' (l.set k (x.lease x.holder x.token (now + ttl) x.tries)).length c', .int .i64 qt], .int .i64 0] ∧ Row g' Item.enc A' (l.set k (x.lease x.holder x.token (now + ttl) x.tries))) ∨
        ((l.findIdx? (·.token == tok) = none ∨ ∃ k x, l.findIdx? (·.token == tok) = some k ∧ l[k]? = some x ∧ (x.holder = noStr ∨ x.until_ ≤ now)) ∧ v = .tuple #[.agg #[.slice none 0 0, .int .i64 0], .int .i64 24])) := by
  refine Tri.vc [.val (.agg #[.slice A l.length c, .int .i64 qt]), .val (.int .i64 tok), .val (.int .i64 now), .val (.int .i64 ttl)] Tryd.func16 rfl Tryd.ntmps16 rfl rfl ?_
  conv => whnf
  intro b1
  conv => whnf
  intro b2
  conv => whnf
  refine OOK.call [] rfl rfl rfl (by kernel_rfl) rfl (f_period g now ttl h1 (by omega) h3 (by omega)) (by decide) rfl ?_
  rintro v g0 m0 hg0 ⟨rfl, rfl⟩
  conv => whnf
  refine ⟨(by intro q; cases q), fun _ => ?_⟩
  conv => whnf
  refine OOK.call [] rfl rfl rfl (by kernel_rfl) rfl (f_held g0 A c l qt tok (hA.mono hg0) (by omega) ht) (by decide) rfl ?_
  rintro v g' m' hg ⟨rfl, hv⟩
  rcases hv with ⟨k, hk, rfl⟩ | ⟨hk, rfl⟩
  · have hkl := findIdx_lt hk
    obtain ⟨x, hx⟩ : ∃ x, l[k]? = some x := ⟨_, List.getElem?_eq_getElem hkl⟩
    obtain ⟨a, rfl, hr⟩ := (hA.mono (hg0.trans hg)).at_ Item.len hx
    have hem : ∀ b, (x.holder.toList == (⟨#[]⟩ : ByteArray).toList) = b → decide (x.holder = noStr) = b := fun b h => by rw [← h, bytes_eq]; rfl
    conv => whnf
    refine ⟨fun q => absurd (of_decide_eq_true q) (by omega), fun _ => ?_⟩
    conv => whnf
    refine ⟨⟨by omega, by omega⟩, ?_⟩
    conv => whnf
    refine OOK.yn (YN.load rfl rfl rfl (v := .string x.holder) (hr.at2 (j := 9) rfl) ?_)
    conv => whnf
    refine ⟨fun q1 => ?_, fun q1 => ?_⟩
    · have q1' : x.holder = noStr := of_decide_eq_true (hem _ q1)
      conv => whnf
      exact .mk ⟨_, [], _, rfl, by decide, rfl, trivial, rfl, .inr ⟨.inr ⟨k, x, hk, hx, .inl q1'⟩, rfl⟩⟩
    · have q1' : ¬ x.holder = noStr := of_decide_eq_false (hem _ q1)
      conv => whnf
      refine ⟨⟨by omega, by omega⟩, ?_⟩
      conv => whnf
      refine OOK.yn (YN.load rfl rfl rfl (v := .int .i64 x.until_) (hr.at2 (j := 11) rfl) ?_)
      conv => whnf
      refine ⟨fun q2 => ?_, fun q2 => ?_⟩
      · conv => whnf
        exact .mk ⟨_, [], _, rfl, by decide, rfl, trivial, rfl, .inr ⟨.inr ⟨k, x, hk, hx, .inr (of_decide_eq_true q2)⟩, rfl⟩⟩
      · conv => whnf
        refine OOK.call [] rfl rfl rfl (by kernel_rfl) rfl (f_copied g' _ c l qt (hA.mono (hg0.trans hg)) (by omega)) (by decide) rfl ?_
        rintro v g2 m2 hg2 ⟨A', c', rfl, hO⟩
        rcases hO with ⟨h1, h2, h3, rfl⟩ | ⟨b, rest, rfl, rfl, h3, h4, h5⟩
        · omega
        · conv => whnf
          refine ⟨⟨by omega, by omega⟩, ?_⟩
          conv => whnf
          have e1 : IntKind.i64.wrap (now + ttl) = now + ttl := i64_in (by omega) (by omega)
          refine OOK.storeElt Item.len (k := k) (j := 11) (l := l) 2 (x.lease x.holder x.token (now + ttl) x.tries) rfl rfl (v := .int .i64 (now + ttl)) (by show some (Value.int .i64 (IntKind.i64.wrap (now + ttl))) = _; rw [e1]) rfl rfl rfl rfl hx rfl (Nat.le_of_ble_eq_true rfl) ?_
          conv => whnf
          refine .freeze 2 rfl rfl fun g4 hg4 hb4 => ?_
          exact .mk ⟨_, [], _, rfl, by decide, rfl, trivial, rfl, .inl ⟨k, x, _, c', hk, hx, q1', by have := of_decide_eq_false q2; omega, by rw [List.length_set]; rfl, row_of hb4⟩⟩
  · conv => whnf
    refine ⟨fun _ => ?_, fun q => absurd (of_decide_eq_false q) (by omega)⟩
    conv => whnf
    exact .mk ⟨_, [], _, rfl, by decide, rfl, trivial, rfl, .inr ⟨.inl hk, rfl⟩⟩
theorem f_return (g : GH) (A : Option Addr) (c : Nat) (l : List Item) (qt tok : Int) (hA : Row g Item.enc A l) (hl : l.length ≤ 10000) (ht : 1 ≤ tok) :
    Tri Tryd.prog 17 [.agg #[.slice A l.length c, .int .i64 qt], .int .i64 tok] g [] fun v g' m' => m' = [] ∧
      ((∃ k x A' c', l.findIdx? (·.token == tok) = some k ∧ l[k]? = some x ∧ v = .tuple #[.agg #[.slice A' (l.set k (x.lease noStr 0 0 x.tries)).length c', .int .i64 qt], .int .i64 0] ∧ Row g' Item.enc A' (l.set k (x.lease noStr 0 0 x.tries))) ∨ (l.findIdx? (·.token == tok) = none ∧ v = .tuple #[.agg #[.slice none 0 0, .int .i64 0], .int .i64 24])) := by
  refine Tri.vc [.val (.agg #[.slice A l.length c, .int .i64 qt]), .val (.int .i64 tok)] Tryd.func17 rfl Tryd.ntmps17 rfl rfl ?_
  conv => whnf
  intro b1
  conv => whnf
  intro b2
  conv => whnf
  refine OOK.call [] rfl rfl rfl (by kernel_rfl) rfl (f_held g A c l qt tok hA (by omega) ht) (by decide) rfl ?_
  rintro v g' m' hg ⟨rfl, hv⟩
  rcases hv with ⟨k, hk, rfl⟩ | ⟨hk, rfl⟩
  · have hkl := findIdx_lt hk
    obtain ⟨x, hx⟩ : ∃ x, l[k]? = some x := ⟨_, List.getElem?_eq_getElem hkl⟩
    conv => whnf
    refine ⟨fun q => absurd (of_decide_eq_true q) (by omega), fun _ => ?_⟩
    conv => whnf
    refine OOK.call [] rfl rfl rfl (by kernel_rfl) rfl (f_copied g' A c l qt (hA.mono hg) (by omega)) (by decide) rfl ?_
    rintro v g2 m2 hg2 ⟨A', c', rfl, hO⟩
    rcases hO with ⟨h1, h2, h3, rfl⟩ | ⟨b, rest, rfl, rfl, h3, h4, h5⟩
    · omega
    · conv => whnf
      refine ⟨⟨by omega, by omega⟩, ?_⟩
      conv => whnf
      refine OOK.storeElt Item.len (k := k) (j := 9) (l := l) 2 (x.lease noStr x.token x.until_ x.tries) rfl rfl (v := .string noStr) rfl rfl rfl rfl rfl hx rfl (Nat.le_of_ble_eq_true rfl) ?_
      conv => whnf
      refine OOK.storeElt Item.len (k := k) (j := 10) (l := l.set k (x.lease noStr x.token x.until_ x.tries)) 2 (x.lease noStr 0 x.until_ x.tries) rfl rfl (v := .int .i64 0) rfl rfl rfl rfl rfl (List.getElem?_set_self hkl) rfl (Nat.le_of_ble_eq_true rfl) ?_
      rw [List.set_set]
      conv => whnf
      refine OOK.storeElt Item.len (k := k) (j := 11) (l := l.set k (x.lease noStr 0 x.until_ x.tries)) 2 (x.lease noStr 0 0 x.tries) rfl rfl (v := .int .i64 0) rfl rfl rfl rfl rfl (List.getElem?_set_self hkl) rfl (Nat.le_of_ble_eq_true rfl) ?_
      rw [List.set_set]
      conv => whnf
      refine .freeze 2 rfl rfl fun g4 hg4 hb4 => ?_
      exact .mk ⟨_, [], _, rfl, by decide, rfl, trivial, rfl, .inl ⟨k, x, _, c', hk, hx, by rw [List.length_set]; rfl, row_of hb4⟩⟩
  · conv => whnf
    refine ⟨fun _ => ?_, fun q => absurd (of_decide_eq_false q) (by omega)⟩
    conv => whnf
    exact .mk ⟨_, [], _, rfl, by decide, rfl, trivial, rfl, .inr ⟨hk, rfl⟩⟩

theorem f_poll (g : GH) (A : Option Addr) (c : Nat) (l : List Item) (qt now ttl : Int) (holder : ByteArray) (hA : Row g Item.enc A l) (hl : l.length ≤ 10000) (hh : holder ≠ noStr) (h1 : 0 ≤ now) (h2 : now ≤ 1000000) (h3 : 1 ≤ ttl) (h4 : ttl ≤ 1000000) (hq : 0 ≤ qt) (hq2 : qt ≤ 1000000) (ht : ∀ x ∈ l, 0 ≤ x.tries ∧ x.tries ≤ 1000000) :
    Tri Tryd.prog 12 [.agg #[.slice A l.length c, .int .i64 qt], .string holder, .int .i64 now, .int .i64 ttl] g [] fun v g' m' => m' = [] ∧
      ((∃ k x A' c', l.findIdx? (avail now) = some k ∧ l[k]? = some x ∧ v = .tuple #[.agg #[.slice A' (l.set k (x.lease holder (qt + 1) (now + ttl) (x.tries + 1))).length c', .int .i64 (qt + 1)], .agg (x.lease holder (qt + 1) (now + ttl) (x.tries + 1)).enc.toArray, .bool true, .int .i64 0] ∧ Row g' Item.enc A' (l.set k (x.lease holder (qt + 1) (now + ttl) (x.tries + 1)))) ∨
        (l.findIdx? (avail now) = none ∧ ∃ A' c', v = .tuple #[.agg #[.slice A' l.length c', .int .i64 qt], .agg Item.zero.enc.toArray, .bool false, .int .i64 0] ∧ Row g' Item.enc A' l)) := by
  refine Tri.vc [.val (.agg #[.slice A l.length c, .int .i64 qt]), .val (.string holder), .val (.int .i64 now), .val (.int .i64 ttl)] Tryd.func12 rfl Tryd.ntmps12 rfl rfl ?_
  have hem : (holder.toList == (⟨#[]⟩ : ByteArray).toList) = false := by rw [bytes_eq]; exact decide_eq_false hh
  conv => whnf
  intro b1
  conv => whnf
  intro b2
  conv => whnf
  intro b3
  conv => whnf
  intro b4
  conv => whnf
  refine ⟨(by intro q; rw [hem] at q; cases q), fun _ => ?_⟩
  conv => whnf
  refine OOK.call [] rfl rfl rfl (by kernel_rfl) rfl (f_period g now ttl h1 (by omega) h3 (by omega)) (by decide) rfl ?_
  rintro v g0 m0 hg0 ⟨rfl, rfl⟩
  conv => whnf
  refine ⟨(by intro q; cases q), fun _ => ?_⟩
  conv => whnf
  refine OOK.call [1] rfl rfl rfl (by kernel_rfl) rfl (indexItem Item.enc Item.len g0 [intBox b2 now] A c l _ _ (avail now) (hA.mono hg0) (by omega) (by kernel_rfl) fun g' hg x hx => c_avail g' b2 now x) (by decide) rfl ?_
  rintro v g' m' hg ⟨rfl, hv⟩
  rcases hv with ⟨k, hk, rfl⟩ | ⟨hk, rfl⟩
  · have hkl := findIdx_lt hk
    obtain ⟨x, hx⟩ : ∃ x, l[k]? = some x := ⟨_, List.getElem?_eq_getElem hkl⟩
    have hxt := ht x (List.mem_of_getElem? hx)
    conv => whnf
    refine ⟨fun q => absurd (of_decide_eq_true q) (by omega), fun _ => ?_⟩
    conv => whnf
    refine ⟨fun q => absurd (of_decide_eq_true q) (by omega), fun _ => ?_⟩
    conv => whnf
    refine OOK.call [] rfl rfl rfl (by kernel_rfl) rfl (f_copied g' A c l qt (hA.mono (hg0.trans hg)) (by omega)) (by decide) rfl ?_
    rintro v g2 m2 hg2 ⟨A', c', rfl, hO⟩
    rcases hO with ⟨q1, q2, q3, rfl⟩ | ⟨b, rest, rfl, rfl, q3, q4, q5⟩
    · omega
    · have e1 : IntKind.i64.wrap (qt + 1) = qt + 1 := i64_in (by omega) (by omega)
      have e2 : IntKind.i64.wrap (now + ttl) = now + ttl := i64_in (by omega) (by omega)
      have e3 : IntKind.i64.wrap (x.tries + 1) = x.tries + 1 := i64_in (by omega) (by omega)
      conv => whnf
      refine ⟨⟨by omega, by omega⟩, ?_⟩
      conv => whnf
      refine OOK.storeElt Item.len (k := k) (j := 9) (l := l) 4 (x.lease holder x.token x.until_ x.tries) rfl rfl (v := .string holder) rfl rfl rfl rfl rfl hx rfl (Nat.le_of_ble_eq_true rfl) ?_
      conv => whnf
      refine OOK.storeElt Item.len (k := k) (j := 10) (l := l.set k (x.lease holder x.token x.until_ x.tries)) 4 (x.lease holder (qt + 1) x.until_ x.tries) rfl rfl (v := .int .i64 (qt + 1)) (by show some (Value.int .i64 (IntKind.i64.wrap (qt + 1))) = _; rw [e1]) rfl rfl rfl rfl (List.getElem?_set_self hkl) rfl (Nat.le_of_ble_eq_true rfl) ?_
      rw [List.set_set]
      conv => whnf
      refine OOK.storeElt Item.len (k := k) (j := 11) (l := l.set k (x.lease holder (qt + 1) x.until_ x.tries)) 4 (x.lease holder (qt + 1) (now + ttl) x.tries) rfl rfl (v := .int .i64 (now + ttl)) (by show some (Value.int .i64 (IntKind.i64.wrap (now + ttl))) = _; rw [e2]) rfl rfl rfl rfl (List.getElem?_set_self hkl) rfl (Nat.le_of_ble_eq_true rfl) ?_
      rw [List.set_set]
      conv => whnf
      have hgot : ∀ (y : Item) (j : Nat) (v : Value), y.enc[j]? = some v → ((l.set k y).flatMap Item.enc ++ rest)[0 + k * 13 + j]? = some v := fun y j v hv => by
        have h1 := flat_get Item.len (l.set k y) k j y v (List.getElem?_set_self hkl) hv
        rw [Nat.zero_add, List.getElem?_append_left (List.getElem?_eq_some_iff.1 h1).1]; exact h1
      refine OOK.yn (YN.loadOwn (b := b) (q := 0 + k * 13 + 12) (v := .int .i64 x.tries) 4 rfl rfl rfl rfl (hgot _ 12 _ rfl) ?_)
      conv => whnf
      refine OOK.storeElt Item.len (k := k) (j := 12) (l := l.set k (x.lease holder (qt + 1) (now + ttl) x.tries)) 4 (x.lease holder (qt + 1) (now + ttl) (x.tries + 1)) rfl rfl (v := .int .i64 (x.tries + 1)) (by show some (Value.int .i64 (IntKind.i64.wrap (x.tries + 1))) = _; rw [e3]) rfl rfl rfl rfl (List.getElem?_set_self hkl) rfl (Nat.le_of_ble_eq_true rfl) ?_
      rw [List.set_set]
      conv => whnf
      refine COK.draw [0, 4] (by kernel_rfl) (by kernel_rfl) ?_
      conv => whnf
      refine YN.loadsOwn (b := b) (q := 0 + k * 13) (cs := (x.lease holder (qt + 1) (now + ttl) (x.tries + 1)).enc) 4 rfl rfl rfl rfl (hgot _) ?_
      conv => whnf
      refine ⟨⟨rfl, rfl, rfl, rfl, rfl, trivial⟩, ?_⟩
      conv => whnf
      refine ⟨⟨rfl, rfl, rfl, rfl, rfl, trivial⟩, ?_⟩
      conv => whnf
      refine .freeze 4 rfl rfl fun g4 hg4 hb4 => ?_
      exact .mk ⟨_, [], _, rfl, by decide, rfl, trivial, rfl, .inl ⟨k, x, some ⟨b, 0, none⟩, c', hk, hx, by show Value.tuple #[.agg #[_, .int .i64 (IntKind.i64.wrap (qt + 1))], _, _, _] = _; rw [e1, List.length_set]; rfl, row_of hb4⟩⟩
  · conv => whnf
    refine ⟨fun _ => ?_, fun q => absurd (of_decide_eq_false q) (by omega)⟩
    conv => whnf
    refine OOK.call [] rfl rfl rfl (by kernel_rfl) rfl (f_copied g' A c l qt (hA.mono (hg0.trans hg)) (by omega)) (by decide) rfl ?_
    rintro v g2 m2 hg2 ⟨A', c', rfl, hO⟩
    rcases hO with ⟨q1, q2, q3, rfl⟩ | ⟨b, rest, rfl, rfl, q3, q4, q5⟩
    · conv => whnf
      exact .mk ⟨_, [], _, rfl, by decide, rfl, trivial, rfl, .inr ⟨hk, A', c', rfl, fun h => absurd (List.length_pos_iff.2 h) (by omega)⟩⟩
    · conv => whnf
      refine .freeze 4 rfl rfl fun g4 hg4 hb4 => ?_
      exact .mk ⟨_, [], _, rfl, by decide, rfl, trivial, rfl, .inr ⟨hk, _, c', rfl, row_of hb4⟩⟩

/-- A row of tasks that is built. -/
theorem Task.one (x : Task) : ∀ v ∈ x.enc, v.oneCell' = true := by
  intro v hv
  simp only [Task.enc, List.mem_cons, List.not_mem_nil, or_false] at hv
  rcases hv with rfl | rfl | rfl | rfl | rfl | rfl | rfl | rfl | rfl <;> rfl
def Item.fresh (t : Task) : Item := ⟨t, noStr, 0, 0, 0⟩
def keyEq (t : Task) (x : Item) : Bool := decide (x.t.wf = t.wf) && (decide (x.t.run = t.run) && (x.t.id == t.id))
theorem f_add (g : GH) (A : Option Addr) (c : Nat) (l : List Item) (qt : Int) (t : Task) (hA : Row g Item.enc A l) (hl : l.length < 1000) (hw : t.wf ≠ noStr) (hr : t.run ≠ noStr) (hi : 1 ≤ t.id) :
    Tri Tryd.prog 10 [.agg #[.slice A l.length c, .int .i64 qt], .agg t.enc.toArray] g [] fun v g' m' => m' = [] ∧
      ((l.any (keyEq t) = true ∧ ∃ A' c', v = .tuple #[.agg #[.slice A' l.length c', .int .i64 qt], .bool false, .int .i64 0] ∧ Row g' Item.enc A' l) ∨
        (l.any (keyEq t) = false ∧ ∃ A' c', v = .tuple #[.agg #[.slice A' (l ++ [Item.fresh t]).length c', .int .i64 qt], .bool true, .int .i64 0] ∧ Row g' Item.enc A' (l ++ [Item.fresh t]))) := by
  have hw' : (t.wf.toList == (⟨#[]⟩ : ByteArray).toList) = false := by rw [bytes_eq]; exact decide_eq_false hw
  have hr' : (t.run.toList == (⟨#[]⟩ : ByteArray).toList) = false := by rw [bytes_eq]; exact decide_eq_false hr
  refine Tri.vc [.val (.agg #[.slice A l.length c, .int .i64 qt]), .val (.agg t.enc.toArray)] Tryd.func10 rfl Tryd.ntmps10 rfl rfl ?_
  conv => whnf
  intro b1
  conv => whnf
  intro b2
  conv => whnf
  intro b3
  conv => whnf
  refine ⟨(by intro q; rw [hw'] at q; cases q), fun _ => ?_⟩
  conv => whnf
  refine ⟨(by intro q; rw [hr'] at q; cases q), fun _ => ?_⟩
  conv => whnf
  refine ⟨fun q => absurd (of_decide_eq_true q) (by omega), fun _ => ?_⟩
  conv => whnf
  refine COK.loop (α := Nat) (fun i => [(2, .own 0 0), (3, .own 1 0), (4, .own 2 0), (5, .ff), (6, .val (.int .i64 0)), (24, .val (.slice A l.length c)), (25, .val (.int .i64 l.length)), (26, .val (.int .i64 i))])
    (fun _ => [⟨b1, .cells [.slice A l.length c, .int .i64 qt] 27 (0, 0)⟩, ⟨b2, .cells t.enc 32 (0, 0)⟩, ⟨b3, .cells [.slice none 0 0, .int .i64 0] 27 (0, 0)⟩])
    (fun i _ => i ≤ l.length ∧ ∀ x ∈ l.take i, keyEq t x = false) (fun i => l.length - i) 0 [0, 1, 2] (Sub.of (by decide) rfl ⟨rfl, rfl, rfl, rfl, rfl, rfl, rfl, rfl, trivial⟩) ⟨Nat.zero_le _, by simp⟩ ?_
  intro i g' hg ⟨hi1, hno⟩
  refine vcC_ok _ _ _ _ _ ?_
  by_cases hlt : i < l.length
  · obtain ⟨x, hx⟩ : ∃ x, l[i]? = some x := ⟨_, List.getElem?_eq_getElem hlt⟩
    obtain ⟨a, rfl, hrd⟩ := (hA.mono hg).at_ Item.len hx
    conv => whnf
    refine ⟨fun _ => ?_, fun q => absurd q (by simp [hlt])⟩
    conv => whnf
    refine ⟨⟨by omega, by omega⟩, ?_⟩
    conv => whnf
    refine OOK.yn (YN.loads rfl rfl rfl hrd ?_)
    conv => whnf
    intro b4
    conv => whnf
    refine COK.quiet (by kernel_rfl) (by kernel_rfl) ?_
    conv => whnf
    refine QN.call _ [] rfl rfl rfl (by kernel_rfl) rfl (f_keyOf g' x.t) (by decide) rfl (fun v g m _ h => h) ?_
    conv => whnf
    refine QN.call _ [] rfl rfl rfl (by kernel_rfl) rfl (f_keyOf g' t) (by decide) rfl (fun v g m _ h => h) ?_
    conv => whnf
    refine YN.eqAgg rfl rfl rfl Tryd.underlying58 Tryd.stoodInHeld58 Tryd.eqGuardType58 (by kernel_rfl) rfl ?_
    have hke : ((x.t.wf.toList == t.wf.toList) && ((x.t.run.toList == t.run.toList) && ((x.t.id == t.id) && true))) = keyEq t x := by
      unfold keyEq; rw [bytes_eq, bytes_eq, Bool.and_true]
    conv => whnf
    refine ⟨fun q => ?_, fun q => ?_⟩
    · have hk : keyEq t x = true := hke.symm.trans q
      have hany : l.any (keyEq t) = true := List.any_eq_true.2 ⟨x, List.mem_of_getElem? hx, hk⟩
      conv => whnf
      refine OOK.call [] rfl rfl rfl (by kernel_rfl) rfl (f_copied g' _ c l qt (hA.mono hg) (by omega)) (by decide) rfl ?_
      rintro v g2 m2 hg2 ⟨A', c', rfl, hO⟩
      rcases hO with ⟨q1, q2, q3, rfl⟩ | ⟨b, rest, rfl, rfl, q3, q4, q5⟩
      · omega
      · conv => whnf
        refine .freeze 4 rfl rfl fun g4 hg4 hb4 => ?_
        exact .mk ⟨_, [], _, rfl, by decide, rfl, trivial, rfl, .inl ⟨hany, _, c', rfl, row_of hb4⟩⟩
    · have hk : keyEq t x = false := hke.symm.trans q
      conv => whnf
      refine ⟨i + 1, [0, 1, 2], Sub.of (by decide) rfl ⟨rfl, rfl, rfl, rfl, rfl, rfl, rfl, int_eq (i64_in (by omega) (by omega)), trivial⟩, ⟨by omega, ?_⟩, by omega⟩
      intro y hy
      rw [List.take_add_one, hx] at hy
      rcases List.mem_append.1 hy with hy | hy
      · exact hno y hy
      · obtain rfl := List.mem_singleton.1 hy
        exact hk
  · have hnone : l.any (keyEq t) = false := by
      rw [List.any_eq_false]
      intro x hx
      rw [hno x (by rwa [List.take_of_length_le (by omega)])]
      simp
    have hfl := flat_len Item.len l
    conv => whnf
    refine ⟨fun q => absurd q (by simp [hlt]), fun _ => ?_⟩
    conv => whnf
    refine ⟨fun q => absurd (of_decide_eq_true q) (by omega), fun _ => ?_⟩
    conv => whnf
    refine OOK.call [] rfl rfl rfl (by kernel_rfl) rfl (f_copied g' _ c l qt (hA.mono hg) (by omega)) (by decide) rfl ?_
    rintro v g2 m2 hg2 ⟨A', c', rfl, hO⟩
    rcases hO with ⟨q1, q2, q3, rfl⟩ | ⟨b, rest, rfl, rfl, q3, q4, q5⟩
    · have : l = [] := List.eq_nil_of_length_eq_zero q1
      subst this
      subst q2
      conv => whnf
      intro b5
      conv => whnf
      refine OOK.appendNew (old := []) (ys := (Item.fresh t).enc) (k := 1) rfl rfl rfl rfl (.inl ⟨_, rfl⟩) rfl (size := 13) (bytes := 136) rfl rfl rfl (by decide) rfl Src.nil' rfl rfl (by decide)
        (Src.own (i := 3) (q := 0) (cs := (Item.fresh t).enc) (t := 42) (fr := (0, 0)) rfl rfl (fun j v hj => by simpa using hj)) (by decide) ?_
      intro b' c2 rest' hle hlc
      conv => whnf
      refine .freeze 4 rfl rfl fun g4 hg4 hb4 => ?_
      exact .mk ⟨_, [], _, rfl, by decide, rfl, trivial, rfl, .inr ⟨hnone, some ⟨b', 0, none⟩, c2, rfl, row_of (l := [Item.fresh t]) (rest := rest') (by rw [hb4]; rfl)⟩⟩
    · conv => whnf
      intro b5
      conv => whnf
      refine OOK.appendOwn (sn := l.length) (sc := c') (k := 1) (old := l.flatMap Item.enc) (ys := (Item.fresh t).enc) 3 rfl rfl rfl rfl (.inl ⟨_, rfl⟩) rfl (size := 13) (bytes := 136) rfl rfl rfl (by decide) rfl rfl (by rw [← q3, List.take_left' rfl]) q3 q4 rfl
        (Src.own (i := 4) (q := 0) (cs := (Item.fresh t).enc) (t := 42) (fr := (0, 0)) rfl rfl (fun j v hj => by simpa using hj)) (Item.one _) (by omega) ?_
      intro b' c2 rest' hle hlc _
      conv => whnf
      refine .freeze 5 rfl rfl fun g4 hg4 hb4 => ?_
      exact .mk ⟨_, [], _, rfl, by decide, rfl, trivial, rfl, .inr ⟨hnone, some ⟨b', 0, none⟩, c2, by rw [List.length_append]; rfl, row_of (el := 42) (l := l ++ [Item.fresh t]) (rest := rest') (by rw [hb4]; simp)⟩⟩
end Go.Proofs.YtmhdegklhbmnlaaDoor
