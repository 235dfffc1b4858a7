/- WholeQueues: slices. WRITTEN BY A PROGRAM OF MINE (gen in NOTES) for two element types. -/
import Derived.Test.YtmhdegklhbmnlaaDoorQFns
set_option linter.unusedVariables false
set_option maxRecDepth 100000
namespace Go.Proofs.YtmhdegklhbmnlaaDoor
open Go Go.SX

theorem indexItem {α : Type} (enc : α → List Value) (hs : ∀ x, (enc x).length = 13) (g : GH) (ow : Mem) (A : Option Addr) (c : Nat) (l : List α) (f : FuncId) (cap : Array Value) (p : α → Bool)
    (hA : Row g enc A l) (hl : l.length ≤ 9223372036854775807) (hok : calleeOk Tryd.prog f = true) (hp : Tests Tryd.prog f cap enc g ow p l) :
    Tri Tryd.prog 22 [.slice A l.length c, .func (.func f) #[] cap] g ow fun v g' m' => m' = ow ∧ ((∃ k, l.findIdx? p = some k ∧ v = .int .i64 (k : Int)) ∨ (l.findIdx? p = none ∧ v = .int .i64 (-1))) := by
  refine Tri.vc [.val (.slice A l.length c), .val (.func (.func f) #[] cap)] Tryd.func22 rfl Tryd.ntmps22 rfl rfl ?_
  conv => whnf
  refine COK.loop (α := Nat) (fun i => [(0, .val (.slice A l.length c)), (1, .val (.func (.func f) #[] cap)), (7, .val (.int .i64 l.length)), (8, .val (.int .i64 i))]) (fun _ => ow) (fun i _ => i ≤ l.length ∧ ∀ x ∈ l.take i, p x = false) (fun i => l.length - i) 0 (List.range ow.length) ?_ ⟨Nat.zero_le _, by simp⟩ ?_
  · exact Sub.of List.nodup_range (pick_range _) ⟨rfl, rfl, rfl, rfl, trivial⟩
  · intro i g' hg ⟨hi, hno⟩
    by_cases hlt : i < l.length
    · obtain ⟨x, hx⟩ : ∃ x, l[i]? = some x := ⟨_, List.getElem?_eq_getElem hlt⟩
      obtain ⟨a, rfl, hr⟩ := (hA.mono hg).at_ hs hx
      refine vcC_ok _ _ _ _ _ ?_
      conv => whnf
      refine ⟨fun _ => ?_, fun h1 => absurd h1 (by simp [hlt])⟩
      conv => whnf
      refine ⟨⟨by omega, by omega⟩, ?_⟩
      conv => whnf
      refine OOK.yn (YN.loads rfl rfl (by rw [hs]; rfl) hr ?_)
      conv => whnf
      refine OOK.callAll rfl rfl rfl hok rfl (hp g' hg x (List.mem_of_getElem? hx)) ?_
      rintro v g'' m' hg2 ⟨rfl, rfl⟩
      conv => whnf
      refine ⟨fun hpx => ?_, fun hpx => ?_⟩
      · conv => whnf
        refine .mk ⟨_, List.range _, _, rfl, List.nodup_range, pick_range _, extL_refl _, rfl, .inl ⟨i, ?_, rfl⟩⟩
        rw [List.findIdx?_eq_some_iff_getElem]
        refine ⟨hlt, by rw [List.getElem?_eq_getElem hlt] at hx; rw [Option.some.inj hx]; exact hpx, fun j hj => ?_⟩
        have := hno l[j] (List.mem_take_iff_getElem.2 ⟨j, by omega, rfl⟩)
        simp [this]
      · conv => whnf
        refine ⟨i + 1, List.range _, Sub.of List.nodup_range (pick_range _) ⟨rfl, rfl, rfl, int_eq (i64_in (by omega) (by omega)), trivial⟩, ⟨by omega, ?_⟩, by omega⟩
        intro y hy
        rw [List.take_add_one, hx] at hy
        rcases List.mem_append.1 hy with hy | hy
        · exact hno y hy
        · obtain rfl := List.mem_singleton.1 hy
          exact hpx
    · refine vcC_ok _ _ _ _ _ ?_
      conv => whnf
      refine ⟨fun h1 => absurd h1 (by simp [hlt]), fun _ => ?_⟩
      conv => whnf
      refine .mk ⟨_, List.range _, _, rfl, List.nodup_range, pick_range _, extL_refl _, rfl, .inr ⟨?_, rfl⟩⟩
      rw [List.findIdx?_eq_none_iff]
      intro x hx
      exact hno x (by rwa [List.take_of_length_le (by omega)])

theorem deleteTask {α : Type} (enc : α → List Value) (hs : ∀ x, (enc x).length = 12) (h1 : ∀ x, ∀ v ∈ enc x, v.oneCell' = true) (g : GH) (b c : Nat) (l : List α) (rest : List Value) (k : Nat) (hk : k < l.length) (hl : l.length ≤ 100000)
    (hc : (l.flatMap enc ++ rest).length = c * 12) (hlc : l.length ≤ c) :
    Tri Tryd.prog 14 [.slice (some ⟨b, 0, none⟩) l.length c, .int .i64 (k : Int), .int .i64 ((k : Int) + 1)] g [⟨b, .cells (l.flatMap enc ++ rest) 34 (0, 0)⟩] fun v g' m' =>
      ∃ b' c' rest', v = .slice (some ⟨b', 0, none⟩) (l.eraseIdx k).length c' ∧ m' = [⟨b, .dead⟩, ⟨b', .cells ((l.eraseIdx k).flatMap enc ++ rest') 34 (0, 0)⟩] ∧ ((l.eraseIdx k).flatMap enc ++ rest').length = c' * 12 ∧ (l.eraseIdx k).length ≤ c' := by
  have hlen : (l.eraseIdx k).length = l.length - 1 := List.length_eraseIdx_of_lt hk
  have hfl := flat_len hs l
  have e1 : (l.take k).length = k := by rw [List.length_take]; omega
  have e2 : (l.drop (k + 1)).length = l.length - (k + 1) := List.length_drop
  have e3 : l.eraseIdx k = l.take k ++ l.drop (k + 1) := List.eraseIdx_eq_take_drop_succ l k
  have hrl : rest.length = c * 12 - l.length * 12 := by rw [List.length_append, hfl] at hc; omega
  refine Tri.vc [.val (.slice (some ⟨b, 0, none⟩) l.length c), .val (.int .i64 (k : Int)), .val (.int .i64 ((k : Int) + 1))] Tryd.func14 rfl Tryd.ntmps14 rfl rfl ?_
  conv => whnf
  refine ⟨⟨⟨by omega, by omega⟩, ⟨by omega, by omega⟩, by omega, by omega⟩, ?_⟩
  conv => whnf
  refine ⟨fun q => absurd (eq_of_beq q) (by omega), fun _ => ?_⟩
  conv => whnf
  refine COK.draw [] (by kernel_rfl) (by kernel_rfl) ?_
  conv => whnf
  refine ⟨⟨by omega, by omega⟩, ?_⟩
  conv => whnf
  refine ⟨⟨by omega, by omega⟩, ?_⟩
  conv => whnf
  have hcl : (l.flatMap enc).length = l.length * 12 := hfl
  refine OOK.appendOwn (sn := k) (sc := c) (k := l.length - (k + 1)) (old := (l.take k).flatMap enc) (ys := (l.drop (k + 1)).flatMap enc) 0 rfl
    (by show some (Value.slice _ _ _) = _; congr 2; split <;> rfl) rfl rfl (.inl ⟨_, rfl⟩) rfl (size := 12) (bytes := 120) rfl rfl rfl (by decide) rfl rfl ?_ (by rw [flat_len hs, e1]) hc (by rw [flat_len hs, e2])
    (Src.cut (i := 0) (t := 34) rfl hlc (by rw [flat_len hs, e2]; rfl) ?_) ?_ (by omega) ?_
  · show (l.flatMap enc ++ rest).take (k * 12) = _
    rw [List.take_append_of_le_length (by rw [hfl]; omega), flat_take hs]
  · intro q v hq
    have := (List.getElem?_eq_some_iff.1 hq).1
    rw [flat_len hs, e2] at this
    rw [← flat_drop hs] at hq
    rw [List.getElem?_append_left (by rw [hfl]; omega)]
    simpa using hq
  · intro v hv
    obtain ⟨x, _, hx⟩ := List.mem_flatMap.1 hv
    exact h1 x v hx
  intro b' c' rest' hle hlen' hin
  obtain ⟨rfl, rfl⟩ := hin (by omega)
  conv => whnf
  refine ⟨⟨rfl, trivial⟩, ?_⟩
  conv => whnf
  refine ⟨⟨⟨by omega, by omega⟩, by omega, by omega⟩, ?_⟩
  conv => whnf
  refine OOK.clearOwn (b := b') (q := 0 + (k + (l.length - (k + 1))) * 12) (k := 1) (sc := c' - (k + (l.length - (k + 1)))) 1 rfl ?_ rfl rfl (size := 12) (bytes := 120) rfl rfl rfl rfl (by decide) rfl ?_ ?_
  · show some (Value.slice (if c' = _ then _ else _) _ _) = _
    rw [if_neg (by omega)]
    show some (Value.slice (some ⟨b', 0 + (k + (l.length - (k + 1))) * 12, none⟩) (l.length - (k + (l.length - (k + 1)))) (c' - (k + (l.length - (k + 1))))) = _
    rw [show l.length - (k + (l.length - (k + 1))) = 1 by omega]
  · rw [hlen']; omega
  intro zs hz
  conv => whnf
  refine .mk ⟨_, [0, 1], _, rfl, by decide, rfl, ⟨rfl, trivial⟩, b', c', zs ++ rest'.drop 12, ?_, ?_, ?_, by omega⟩
  · rw [hlen, show l.length - 1 = k + (l.length - (k + 1)) by omega]; rfl
  · have hA : ((l.eraseIdx k).flatMap enc) = (l.take k).flatMap enc ++ (l.drop (k + 1)).flatMap enc := by rw [e3, List.flatMap_append]
    have hB : ((l.take k).flatMap enc ++ (l.drop (k + 1)).flatMap enc).length = (k + (l.length - (k + 1))) * 12 := by
      rw [List.length_append, flat_len hs, flat_len hs, e1, e2]; omega
    have hC : ((l.take k).flatMap enc ++ (l.drop (k + 1)).flatMap enc ++ rest').take (0 + (k + (l.length - (k + 1))) * 12) = (l.take k).flatMap enc ++ (l.drop (k + 1)).flatMap enc := by
      rw [Nat.zero_add, ← hB, List.take_left']; rfl
    have hD : ((l.take k).flatMap enc ++ (l.drop (k + 1)).flatMap enc ++ rest').drop (0 + (k + (l.length - (k + 1))) * 12 + 1 * 12) = rest'.drop 12 := by
      rw [Nat.zero_add, ← List.drop_drop, ← hB, List.drop_left']; rfl
    rw [hA]
    rw [hC]
    erw [hD]
    rw [List.append_assoc]
  · have hz' : zs.length = 12 := by simpa using hz
    have : ((l.take k).flatMap enc ++ (l.drop (k + 1)).flatMap enc ++ rest').length = c' * 12 := hlen'
    simp only [List.length_append, flat_len hs, e1, e2, List.length_drop, hlen, hz'] at this ⊢
    omega

theorem deleteItem {α : Type} (enc : α → List Value) (hs : ∀ x, (enc x).length = 13) (h1 : ∀ x, ∀ v ∈ enc x, v.oneCell' = true) (g : GH) (b c : Nat) (l : List α) (rest : List Value) (k : Nat) (hk : k < l.length) (hl : l.length ≤ 100000)
    (hc : (l.flatMap enc ++ rest).length = c * 13) (hlc : l.length ≤ c) :
    Tri Tryd.prog 27 [.slice (some ⟨b, 0, none⟩) l.length c, .int .i64 (k : Int), .int .i64 ((k : Int) + 1)] g [⟨b, .cells (l.flatMap enc ++ rest) 42 (0, 0)⟩] fun v g' m' =>
      ∃ b' c' rest', v = .slice (some ⟨b', 0, none⟩) (l.eraseIdx k).length c' ∧ m' = [⟨b, .dead⟩, ⟨b', .cells ((l.eraseIdx k).flatMap enc ++ rest') 42 (0, 0)⟩] ∧ ((l.eraseIdx k).flatMap enc ++ rest').length = c' * 13 ∧ (l.eraseIdx k).length ≤ c' := by
  have hlen : (l.eraseIdx k).length = l.length - 1 := List.length_eraseIdx_of_lt hk
  have hfl := flat_len hs l
  have e1 : (l.take k).length = k := by rw [List.length_take]; omega
  have e2 : (l.drop (k + 1)).length = l.length - (k + 1) := List.length_drop
  have e3 : l.eraseIdx k = l.take k ++ l.drop (k + 1) := List.eraseIdx_eq_take_drop_succ l k
  have hrl : rest.length = c * 13 - l.length * 13 := by rw [List.length_append, hfl] at hc; omega
  refine Tri.vc [.val (.slice (some ⟨b, 0, none⟩) l.length c), .val (.int .i64 (k : Int)), .val (.int .i64 ((k : Int) + 1))] Tryd.func27 rfl Tryd.ntmps27 rfl rfl ?_
  conv => whnf
  refine ⟨⟨⟨by omega, by omega⟩, ⟨by omega, by omega⟩, by omega, by omega⟩, ?_⟩
  conv => whnf
  refine ⟨fun q => absurd (eq_of_beq q) (by omega), fun _ => ?_⟩
  conv => whnf
  refine COK.draw [] (by kernel_rfl) (by kernel_rfl) ?_
  conv => whnf
  refine ⟨⟨by omega, by omega⟩, ?_⟩
  conv => whnf
  refine ⟨⟨by omega, by omega⟩, ?_⟩
  conv => whnf
  have hcl : (l.flatMap enc).length = l.length * 13 := hfl
  refine OOK.appendOwn (sn := k) (sc := c) (k := l.length - (k + 1)) (old := (l.take k).flatMap enc) (ys := (l.drop (k + 1)).flatMap enc) 0 rfl
    (by show some (Value.slice _ _ _) = _; congr 2; split <;> rfl) rfl rfl (.inl ⟨_, rfl⟩) rfl (size := 13) (bytes := 136) rfl rfl rfl (by decide) rfl rfl ?_ (by rw [flat_len hs, e1]) hc (by rw [flat_len hs, e2])
    (Src.cut (i := 0) (t := 42) rfl hlc (by rw [flat_len hs, e2]; rfl) ?_) ?_ (by omega) ?_
  · show (l.flatMap enc ++ rest).take (k * 13) = _
    rw [List.take_append_of_le_length (by rw [hfl]; omega), flat_take hs]
  · intro q v hq
    have := (List.getElem?_eq_some_iff.1 hq).1
    rw [flat_len hs, e2] at this
    rw [← flat_drop hs] at hq
    rw [List.getElem?_append_left (by rw [hfl]; omega)]
    simpa using hq
  · intro v hv
    obtain ⟨x, _, hx⟩ := List.mem_flatMap.1 hv
    exact h1 x v hx
  intro b' c' rest' hle hlen' hin
  obtain ⟨rfl, rfl⟩ := hin (by omega)
  conv => whnf
  refine ⟨⟨rfl, trivial⟩, ?_⟩
  conv => whnf
  refine ⟨⟨⟨by omega, by omega⟩, by omega, by omega⟩, ?_⟩
  conv => whnf
  refine OOK.clearOwn (b := b') (q := 0 + (k + (l.length - (k + 1))) * 13) (k := 1) (sc := c' - (k + (l.length - (k + 1)))) 1 rfl ?_ rfl rfl (size := 13) (bytes := 136) rfl rfl rfl rfl (by decide) rfl ?_ ?_
  · show some (Value.slice (if c' = _ then _ else _) _ _) = _
    rw [if_neg (by omega)]
    show some (Value.slice (some ⟨b', 0 + (k + (l.length - (k + 1))) * 13, none⟩) (l.length - (k + (l.length - (k + 1)))) (c' - (k + (l.length - (k + 1))))) = _
    rw [show l.length - (k + (l.length - (k + 1))) = 1 by omega]
  · rw [hlen']; omega
  intro zs hz
  conv => whnf
  refine .mk ⟨_, [0, 1], _, rfl, by decide, rfl, ⟨rfl, trivial⟩, b', c', zs ++ rest'.drop 13, ?_, ?_, ?_, by omega⟩
  · rw [hlen, show l.length - 1 = k + (l.length - (k + 1)) by omega]; rfl
  · have hA : ((l.eraseIdx k).flatMap enc) = (l.take k).flatMap enc ++ (l.drop (k + 1)).flatMap enc := by rw [e3, List.flatMap_append]
    have hB : ((l.take k).flatMap enc ++ (l.drop (k + 1)).flatMap enc).length = (k + (l.length - (k + 1))) * 13 := by
      rw [List.length_append, flat_len hs, flat_len hs, e1, e2]; omega
    have hC : ((l.take k).flatMap enc ++ (l.drop (k + 1)).flatMap enc ++ rest').take (0 + (k + (l.length - (k + 1))) * 13) = (l.take k).flatMap enc ++ (l.drop (k + 1)).flatMap enc := by
      rw [Nat.zero_add, ← hB, List.take_left']; rfl
    have hD : ((l.take k).flatMap enc ++ (l.drop (k + 1)).flatMap enc ++ rest').drop (0 + (k + (l.length - (k + 1))) * 13 + 1 * 13) = rest'.drop 13 := by
      rw [Nat.zero_add, ← List.drop_drop, ← hB, List.drop_left']; rfl
    rw [hA]
    rw [hC]
    erw [hD]
    rw [List.append_assoc]
  · have hz' : zs.length = 13 := by simpa using hz
    have : ((l.take k).flatMap enc ++ (l.drop (k + 1)).flatMap enc ++ rest').length = c' * 13 := hlen'
    simp only [List.length_append, flat_len hs, e1, e2, List.length_drop, hlen, hz'] at this ⊢
    omega

end Go.Proofs.YtmhdegklhbmnlaaDoor
