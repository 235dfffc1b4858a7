/- WholeTimers: items, and the functions that take slices of them. -/
import Derived.Test.YtnkfpapegknlfaaSxRow
import Derived.Test.YtnkfpapegknlfaaProg
set_option linter.unusedVariables false
set_option linter.unusedSimpArgs false
set_option maxRecDepth 100000
namespace Go.Proofs.Ytnkfpapegknlfaa
open Go Go.SX

structure Item where
  due : Int
  id : Int
def Item.enc (x : Item) : List Value := [.int .i64 x.due, .int .i64 x.id]
theorem Item.len (x : Item) : x.enc.length = 2 := rfl
theorem Item.one (x : Item) : ∀ v ∈ x.enc, v.oneCell' = true := by
  intro v hv
  simp only [Item.enc, List.mem_cons, List.not_mem_nil, or_false] at hv
  rcases hv with rfl | rfl <;> rfl

/-- A test as a closure: it answers p, and changes nothing that it is handed. -/
def Tests {α : Type} (P : Program) (f : FuncId) (cap : Array Value) (enc : α → List Value) (g : GH) (ow : Mem) (p : α → Bool) (l : List α) : Prop :=
  ∀ g', g.le g' → ∀ x ∈ l, Tri P f (.agg (enc x).toArray :: cap.toList) g' ow fun v g'' m' => v = .bool (p x) ∧ m' = ow

theorem indexItem {α : Type} (enc : α → List Value) (hs : ∀ x, (enc x).length = 2) (g : GH) (ow : Mem) (A : Option Addr) (c : Nat) (l : List α) (f : FuncId) (cap : Array Value) (p : α → Bool)
    (hA : RowIn g ow enc A l) (hl : l.length ≤ 9223372036854775807) (hok : calleeOk Try.prog f = true) (hp : Tests Try.prog f cap enc g ow p l) :
    Tri Try.prog 10 [.slice A l.length c, .func (.func f) #[] cap] g ow fun v g' m' => m' = ow ∧ ((∃ k, l.findIdx? p = some k ∧ v = .int .i64 (k : Int)) ∨ (l.findIdx? p = none ∧ v = .int .i64 (-1))) := by
  refine Tri.vc [.val (.slice A l.length c), .val (.func (.func f) #[] cap)] Try.func10 rfl Try.ntmps10 rfl rfl ?_
  conv => whnf
  refine COK.loop (α := Nat) (fun i => [(0, .val (.slice A l.length c)), (1, .val (.func (.func f) #[] cap)), (7, .val (.int .i64 l.length)), (8, .val (.int .i64 i))]) (fun _ => ow) (fun i _ => i ≤ l.length ∧ ∀ x ∈ l.take i, p x = false) (fun i => l.length - i) 0 (List.range ow.length) ?_ ⟨Nat.zero_le _, by simp⟩ ?_
  · exact Sub.of List.nodup_range (pick_range _) ⟨rfl, rfl, rfl, rfl, trivial⟩
  · intro i g' hg ⟨hi, hno⟩
    by_cases hlt : i < l.length
    · obtain ⟨x, hx⟩ : ∃ x, l[i]? = some x := ⟨_, List.getElem?_eq_getElem hlt⟩
      obtain ⟨a, rfl, hr⟩ := (hA.mono hg).at_ hs hx
      refine vcC_ok _ _ _ _ _ ?_
      conv => whnf
      refine ⟨fun _ => ?_, fun h1 => absurd h1 (by simp [hlt])⟩
      conv => whnf
      refine ⟨⟨by omega, by omega⟩, ?_⟩
      conv => whnf
      refine OOK.yn (YN.loadsIn rfl rfl (by rw [hs]; rfl) hr ?_)
      conv => whnf
      refine OOK.callAll rfl rfl rfl hok rfl (hp g' hg x (List.mem_of_getElem? hx)) ?_
      rintro v g'' m' hg2 ⟨rfl, rfl⟩
      conv => whnf
      refine ⟨fun hpx => ?_, fun hpx => ?_⟩
      · conv => whnf
        refine .mk ⟨_, List.range _, _, rfl, List.nodup_range, pick_range _, extL_refl _, rfl, .inl ⟨i, ?_, rfl⟩⟩
        rw [List.findIdx?_eq_some_iff_getElem]
        refine ⟨hlt, by rw [List.getElem?_eq_getElem hlt] at hx; rw [Option.some.inj hx]; exact hpx, fun j hj => ?_⟩
        have := hno l[j] (List.mem_take_iff_getElem.2 ⟨j, by omega, rfl⟩)
        simp [this]
      · conv => whnf
        refine ⟨i + 1, List.range _, Sub.of List.nodup_range (pick_range _) ⟨rfl, rfl, rfl, int_eq (i64_in (by omega) (by omega)), trivial⟩, ⟨by omega, ?_⟩, by omega⟩
        intro y hy
        rw [List.take_add_one, hx] at hy
        rcases List.mem_append.1 hy with hy | hy
        · exact hno y hy
        · obtain rfl := List.mem_singleton.1 hy
          exact hpx
    · refine vcC_ok _ _ _ _ _ ?_
      conv => whnf
      refine ⟨fun h1 => absurd h1 (by simp [hlt]), fun _ => ?_⟩
      conv => whnf
      refine .mk ⟨_, List.range _, _, rfl, List.nodup_range, pick_range _, extL_refl _, rfl, .inr ⟨?_, rfl⟩⟩
      rw [List.findIdx?_eq_none_iff]
      intro x hx
      exact hno x (by rwa [List.take_of_length_le (by omega)])
theorem deleteItem {α : Type} (enc : α → List Value) (hs : ∀ x, (enc x).length = 2) (h1 : ∀ x, ∀ v ∈ enc x, v.oneCell' = true) (g : GH) (b c : Nat) (l : List α) (rest : List Value) (k : Nat) (hk : k < l.length) (hl : l.length ≤ 100000)
    (hc : (l.flatMap enc ++ rest).length = c * 2) (hlc : l.length ≤ c) :
    Tri Try.prog 14 [.slice (some ⟨b, 0, none⟩) l.length c, .int .i64 (k : Int), .int .i64 ((k : Int) + 1)] g [⟨b, .cells (l.flatMap enc ++ rest) 29 (0, 0)⟩] fun v g' m' =>
      ∃ b' c' rest', v = .slice (some ⟨b', 0, none⟩) (l.eraseIdx k).length c' ∧ m' = [⟨b, .dead⟩, ⟨b', .cells ((l.eraseIdx k).flatMap enc ++ rest') 29 (0, 0)⟩] ∧ ((l.eraseIdx k).flatMap enc ++ rest').length = c' * 2 ∧ (l.eraseIdx k).length ≤ c' := by
  have hlen : (l.eraseIdx k).length = l.length - 1 := List.length_eraseIdx_of_lt hk
  have hfl := flat_len hs l
  have e1 : (l.take k).length = k := by rw [List.length_take]; omega
  have e2 : (l.drop (k + 1)).length = l.length - (k + 1) := List.length_drop
  have e3 : l.eraseIdx k = l.take k ++ l.drop (k + 1) := List.eraseIdx_eq_take_drop_succ l k
  have hrl : rest.length = c * 2 - l.length * 2 := by rw [List.length_append, hfl] at hc; omega
  refine Tri.vc [.val (.slice (some ⟨b, 0, none⟩) l.length c), .val (.int .i64 (k : Int)), .val (.int .i64 ((k : Int) + 1))] Try.func14 rfl Try.ntmps14 rfl rfl ?_
  conv => whnf
  refine ⟨⟨⟨by omega, by omega⟩, ⟨by omega, by omega⟩, by omega, by omega⟩, ?_⟩
  conv => whnf
  refine ⟨fun q => absurd (eq_of_beq q) (by omega), fun _ => ?_⟩
  conv => whnf
  refine COK.draw [] (by kernel_rfl) (by kernel_rfl) ?_
  conv => whnf
  refine ⟨⟨by omega, by omega⟩, ?_⟩
  conv => whnf
  refine ⟨⟨by omega, by omega⟩, ?_⟩
  conv => whnf
  have hcl : (l.flatMap enc).length = l.length * 2 := hfl
  refine OOK.appendOwn (sn := k) (sc := c) (k := l.length - (k + 1)) (old := (l.take k).flatMap enc) (ys := (l.drop (k + 1)).flatMap enc) 0 rfl
    (by show some (Value.slice _ _ _) = _; congr 2; split <;> rfl) rfl rfl (.inl ⟨_, rfl⟩) rfl (size := 2) (bytes := 16) rfl rfl rfl (by decide) rfl rfl ?_ (by rw [flat_len hs, e1]) hc (by rw [flat_len hs, e2])
    (Src.cut (i := 0) (t := 29) rfl hlc (by rw [flat_len hs, e2]; rfl) ?_) ?_ (by omega) ?_
  · show (l.flatMap enc ++ rest).take (k * 2) = _
    rw [List.take_append_of_le_length (by rw [hfl]; omega), flat_take hs]
  · intro q v hq
    have := (List.getElem?_eq_some_iff.1 hq).1
    rw [flat_len hs, e2] at this
    rw [← flat_drop hs] at hq
    rw [List.getElem?_append_left (by rw [hfl]; omega)]
    simpa using hq
  · intro v hv
    obtain ⟨x, _, hx⟩ := List.mem_flatMap.1 hv
    exact h1 x v hx
  intro b' c' rest' hle hlen' hin
  obtain ⟨rfl, rfl⟩ := hin (by omega)
  conv => whnf
  refine ⟨⟨rfl, trivial⟩, ?_⟩
  conv => whnf
  refine ⟨⟨⟨by omega, by omega⟩, by omega, by omega⟩, ?_⟩
  conv => whnf
  refine OOK.clearOwn (b := b') (q := 0 + (k + (l.length - (k + 1))) * 2) (k := 1) (sc := c' - (k + (l.length - (k + 1)))) 1 rfl ?_ rfl rfl (size := 2) (bytes := 16) rfl rfl rfl rfl (by decide) rfl ?_ ?_
  · show some (Value.slice (if c' = _ then _ else _) _ _) = _
    rw [if_neg (by omega)]
    show some (Value.slice (some ⟨b', 0 + (k + (l.length - (k + 1))) * 2, none⟩) (l.length - (k + (l.length - (k + 1)))) (c' - (k + (l.length - (k + 1))))) = _
    rw [show l.length - (k + (l.length - (k + 1))) = 1 by omega]
  · rw [hlen']; omega
  intro zs hz
  conv => whnf
  refine .mk ⟨_, [0, 1], _, rfl, by decide, rfl, ⟨rfl, trivial⟩, b', c', zs ++ rest'.drop 2, ?_, ?_, ?_, by omega⟩
  · rw [hlen, show l.length - 1 = k + (l.length - (k + 1)) by omega]; rfl
  · have hA : ((l.eraseIdx k).flatMap enc) = (l.take k).flatMap enc ++ (l.drop (k + 1)).flatMap enc := by rw [e3, List.flatMap_append]
    have hB : ((l.take k).flatMap enc ++ (l.drop (k + 1)).flatMap enc).length = (k + (l.length - (k + 1))) * 2 := by
      rw [List.length_append, flat_len hs, flat_len hs, e1, e2]; omega
    have hC : ((l.take k).flatMap enc ++ (l.drop (k + 1)).flatMap enc ++ rest').take (0 + (k + (l.length - (k + 1))) * 2) = (l.take k).flatMap enc ++ (l.drop (k + 1)).flatMap enc := by
      rw [Nat.zero_add, ← hB, List.take_left']; rfl
    have hD : ((l.take k).flatMap enc ++ (l.drop (k + 1)).flatMap enc ++ rest').drop (0 + (k + (l.length - (k + 1))) * 2 + 1 * 2) = rest'.drop 2 := by
      rw [Nat.zero_add, ← List.drop_drop, ← hB, List.drop_left']; rfl
    rw [hA]
    rw [hC]
    erw [hD]
    rw [List.append_assoc]
  · have hz' : zs.length = 2 := by simpa using hz
    have : ((l.take k).flatMap enc ++ (l.drop (k + 1)).flatMap enc ++ rest').length = c' * 2 := hlen'
    simp only [List.length_append, flat_len hs, e1, e2, List.length_drop, hlen, hz'] at this ⊢
    omega

/-- What is one's own of a row: nothing where there is no room. -/
def OwnRow (el size : Nat) (A : Option Addr) (n c : Nat) (cs : List Value) (M : Mem) : Prop :=
  (n = 0 ∧ c = 0 ∧ cs = [] ∧ M = []) ∨ ∃ (b : Nat) (rest : List Value), A = some ⟨b, 0, none⟩ ∧ M = [⟨b, .cells (cs ++ rest) el (0, 0)⟩] ∧ cs.length = n * size ∧ (cs ++ rest).length = c * size ∧ n ≤ c
theorem f_clone (g : GH) (A : Option Addr) (c : Nat) (l : List Item) (hA : Row g Item.enc A l) (hl : l.length ≤ 100000) :
    Tri Try.prog 15 [.slice A l.length c] g [] fun v g' m' => ∃ A' c', v = .slice A' l.length c' ∧ OwnRow 29 2 A' l.length c' (l.flatMap Item.enc) m' := by
  have hlen := flat_len Item.len l
  refine Tri.vc [.val (.slice A l.length c)] Try.func15 rfl Try.ntmps15 rfl rfl ?_
  cases A with
  | none =>
    have : l = [] := by
      cases l with
      | nil => rfl
      | cons x r => obtain ⟨a, h, _⟩ := hA (by simp); cases h
    subst this
    conv => whnf
    refine ⟨fun _ => ?_, fun q => by cases q⟩
    conv => whnf
    exact .mk ⟨_, [], _, rfl, by decide, rfl, trivial, none, 0, rfl, .inl ⟨rfl, rfl, rfl, rfl⟩⟩
  | some a =>
    conv => whnf
    refine ⟨(by intro q; cases q), fun _ => ?_⟩
    conv => whnf
    intro b
    conv => whnf
    by_cases h0 : l = []
    · subst h0
      refine OOK.appendNone rfl rfl rfl rfl (.inl ⟨_, rfl⟩) rfl (size := 2) (bytes := 16) rfl rfl (Src.nil') ?_
      conv => whnf
      exact .mk ⟨_, [], _, rfl, by decide, rfl, trivial, _, 0, rfl, .inl ⟨rfl, rfl, rfl, rfl⟩⟩
    · obtain ⟨a', ha, hr⟩ := hA h0
      obtain rfl := Option.some.inj ha
      have hpos : 0 < l.length := List.length_pos_iff.2 h0
      refine OOK.appendNew (old := []) (ys := l.flatMap Item.enc) (k := l.length) rfl rfl rfl rfl (.inl ⟨_, rfl⟩) rfl (size := 2) (bytes := 16) rfl rfl rfl (by decide) rfl Src.nil' rfl hlen (by omega) (Src.reads hlen hr) (by omega) ?_
      intro b' c' rest hle hlc
      conv => whnf
      exact .mk ⟨_, [1], _, rfl, by decide, rfl, trivial, some ⟨b', 0, none⟩, c', by rw [Nat.zero_add]; rfl, .inr ⟨b', rest, rfl, rfl, hlen, by simpa using hlc, by omega⟩⟩
theorem f_equal (g : GH) (A B : Option Addr) (c d : Nat) (l : List Item) (hA : Row g Item.enc A l) (hB : Row g Item.enc B l) (hl : l.length ≤ 10000) :
    Tri Try.prog 12 [.slice A l.length c, .slice B l.length d] g [] fun v g' m' => v = .bool true ∧ m' = [] := by
  refine Tri.vc [.val (.slice A l.length c), .val (.slice B l.length d)] Try.func12 rfl Try.ntmps12 rfl rfl ?_
  conv => whnf
  refine ⟨fun q => absurd q (by simp), fun _ => ?_⟩
  conv => whnf
  refine COK.loop (α := Nat) (fun i => [(0, .val (.slice A l.length c)), (1, .val (.slice B l.length d)), (12, .val (.int .i64 l.length)), (13, .val (.int .i64 i))]) (fun _ => []) (fun i _ => i ≤ l.length) (fun i => l.length - i) 0 [] (Sub.of (by decide) rfl ⟨rfl, rfl, rfl, rfl, trivial⟩) (Nat.zero_le _) ?_
  intro i g' hg hi
  refine vcC_ok _ _ _ _ _ ?_
  by_cases hlt : i < l.length
  · obtain ⟨x, hx⟩ : ∃ x, l[i]? = some x := ⟨_, List.getElem?_eq_getElem hlt⟩
    obtain ⟨a, rfl, hr⟩ := (hA.mono hg).at_ Item.len hx
    obtain ⟨b, rfl, hs⟩ := (hB.mono hg).at_ Item.len hx
    conv => whnf
    refine ⟨fun _ => ?_, fun h1 => absurd h1 (by simp [hlt])⟩
    conv => whnf
    refine COK.quiet (by kernel_rfl) (by kernel_rfl) ?_
    conv => whnf
    refine ⟨⟨by omega, by omega⟩, ?_⟩
    conv => whnf
    refine YN.loads rfl rfl rfl hr ?_
    conv => whnf
    refine ⟨⟨by omega, by omega⟩, ?_⟩
    conv => whnf
    refine YN.loads rfl rfl rfl hs ?_
    conv => whnf
    refine YN.neqAgg rfl rfl rfl Try.underlying29 Try.stoodInHeld29 Try.eqGuardType29 (by kernel_rfl) rfl ?_
    conv => whnf
    have hke : ((x.due == x.due) && ((x.id == x.id) && true)) = true := by simp
    refine ⟨fun q => absurd ((congrArg Bool.not hke).symm.trans q) (by decide), fun _ => ?_⟩
    conv => whnf
    exact ⟨i + 1, [], Sub.of (by decide) rfl ⟨rfl, rfl, rfl, int_eq (i64_in (by omega) (by omega)), trivial⟩, by omega, by omega⟩
  · conv => whnf
    refine ⟨fun h1 => absurd h1 (by simp [hlt]), fun _ => ?_⟩
    conv => whnf
    exact .mk ⟨_, [], _, rfl, by decide, rfl, trivial, rfl, rfl⟩

end Go.Proofs.Ytnkfpapegknlfaa
