/- WholeQueues: the free tasks. -/
import Derived.Test.YtmhdegklhbmnlaaDoorQOps
set_option linter.unusedVariables false
set_option linter.unusedSimpArgs false
set_option maxRecDepth 100000
namespace Go.Proofs.YtmhdegklhbmnlaaDoor
open Go Go.SX

theorem f_free (g : GH) (A : Option Addr) (c : Nat) (l : List Item) (qt now : Int) (hA : Row g Item.enc A l) (hl : l.length ≤ 10000) :
    Tri Tryd.prog 29 [.agg #[.slice A l.length c, .int .i64 qt], .int .i64 now] g [] fun v g' m' => m' = [] ∧ ∃ A' c', v = .slice A' ((l.filter (avail now)).map (·.t)).length c' ∧ Row g' Task.enc A' ((l.filter (avail now)).map (·.t)) := by
  refine Tri.vc [.val (.agg #[.slice A l.length c, .int .i64 qt]), .val (.int .i64 now)] Tryd.func29 rfl Tryd.ntmps29 rfl rfl ?_
  conv => whnf
  intro b1
  conv => whnf
  -- the row so far: nothing, or a block of one's own
  refine COK.loop (α := Nat × Option (Nat × Nat × List Value)) (fun x => [(1, .val (.int .i64 now)), (5, .val (match x.2 with
      | none => .slice none 0 0
      | some (b, cc, rest) => .slice (some ⟨b, 0, none⟩) (((l.take x.1).filter (avail now)).map (·.t)).length cc)), (9, .val (.slice A l.length c)), (10, .val (.int .i64 l.length)), (11, .val (.int .i64 x.1))])
    (fun x => match x.2 with
      | none => []
      | some (b, cc, rest) => [⟨b, .cells ((((l.take x.1).filter (avail now)).map (·.t)).flatMap Task.enc ++ rest) 32 (0, 0)⟩])
    (fun x _ => x.1 ≤ l.length ∧ match x.2 with
      | none => ((l.take x.1).filter (avail now)).map (·.t) = []
      | some (b, cc, rest) => ((((l.take x.1).filter (avail now)).map (·.t)).flatMap Task.enc ++ rest).length = cc * 9 ∧ (((l.take x.1).filter (avail now)).map (·.t)).length ≤ cc)
    (fun x => l.length - x.1) (0, none) [] (Sub.of (by decide) rfl ⟨rfl, rfl, rfl, rfl, rfl, trivial⟩) ⟨Nat.zero_le _, by simp⟩ ?_
  rintro ⟨i, st⟩ g' hg ⟨hi, hst⟩
  simp only at hi
  refine vcC_ok _ _ _ _ _ ?_
  by_cases hlt : i < l.length
  · obtain ⟨x, hx⟩ : ∃ x, l[i]? = some x := ⟨_, List.getElem?_eq_getElem hlt⟩
    obtain ⟨a, rfl, hrd⟩ := (hA.mono hg).at_ Item.len hx
    have hlen0 : (((l.take i).filter (avail now)).map (·.t)).length ≤ 10000 := by
      rw [List.length_map]
      exact Nat.le_trans (List.length_filter_le _ _) (by rw [List.length_take]; omega)
    have hs0 : avail now x = false → ((l.take (i + 1)).filter (avail now)).map (·.t) = ((l.take i).filter (avail now)).map (·.t) := fun h => by
      rw [List.take_add_one, hx]; simp [h]
    have hs1 : avail now x = true → ((l.take (i + 1)).filter (avail now)).map (·.t) = ((l.take i).filter (avail now)).map (·.t) ++ [x.t] := fun h => by
      rw [List.take_add_one, hx]; simp [h]
    revert hs0 hs1 hst hlen0
    generalize hT : ((l.take i).filter (avail now)).map (·.t) = T
    intro hst hlen0 hs0 hs1
    rcases st with _ | ⟨b, cc, rest⟩
    · simp only at hst
      subst hst
      conv => whnf
      refine ⟨fun _ => ?_, fun q => absurd q (by simp [hlt])⟩
      conv => whnf
      refine ⟨⟨by omega, by omega⟩, ?_⟩
      conv => whnf
      refine OOK.yn (YN.loads rfl rfl rfl hrd ?_)
      conv => whnf
      intro b2
      conv => whnf
      refine OOK.call [] rfl rfl rfl (by kernel_rfl) rfl (f_avail g' now x) (by decide) rfl ?_
      rintro v g2 m2 hg2 ⟨rfl, rfl⟩
      conv => whnf
      refine ⟨fun q => ?_, fun q => ?_⟩
      · conv => whnf
        intro b3
        conv => whnf
        refine OOK.appendNew (old := []) (ys := x.t.enc) (k := 1) rfl rfl rfl rfl (.inl ⟨_, rfl⟩) rfl (size := 9) (bytes := 96) rfl rfl rfl (by decide) rfl Src.nil' rfl rfl (by decide)
          (Src.own (i := 1) (q := 0) (cs := x.t.enc) (t := 32) (fr := (0, 0)) rfl rfl (fun j v hj => by simpa using hj)) (by decide) ?_
        intro b' c2 rest' hle hlc
        conv => whnf
        refine ⟨(i + 1, some (b', c2, rest')), [2], ?_, ⟨by simp only; omega, ?_⟩, by simp only; omega⟩
        · simp only [hs1 q]
          exact Sub.of (by decide) rfl ⟨rfl, rfl, rfl, rfl, int_eq (i64_in (by omega) (by omega)), trivial⟩
        · simp only [hs1 q]
          exact ⟨by simpa using hlc, by simpa using hle⟩
      · conv => whnf
        refine ⟨(i + 1, none), [], ?_, ⟨by simp only; omega, ?_⟩, by simp only; omega⟩
        · exact Sub.of (by decide) rfl ⟨rfl, rfl, rfl, rfl, int_eq (i64_in (by omega) (by omega)), trivial⟩
        · simp only [hs0 q]
    · simp only at hst
      obtain ⟨hc1, hc2⟩ := hst
      simp only [hT]
      have hTl := flat_len Task.len T
      conv => whnf
      refine ⟨fun _ => ?_, fun q => absurd q (by simp [hlt])⟩
      conv => whnf
      refine ⟨⟨by omega, by omega⟩, ?_⟩
      conv => whnf
      refine OOK.yn (YN.loads rfl rfl rfl hrd ?_)
      conv => whnf
      intro b2
      conv => whnf
      refine OOK.call [] rfl rfl rfl (by kernel_rfl) rfl (f_avail g' now x) (by decide) rfl ?_
      rintro v g2 m2 hg2 ⟨rfl, rfl⟩
      conv => whnf
      refine ⟨fun q => ?_, fun q => ?_⟩
      · conv => whnf
        intro b3
        conv => whnf
        refine OOK.appendOwn (sn := T.length) (sc := cc) (k := 1) (old := T.flatMap Task.enc) (ys := x.t.enc) 0 rfl rfl rfl rfl (.inl ⟨_, rfl⟩) rfl (size := 9) (bytes := 96) rfl rfl rfl (by decide) rfl rfl (by rw [← hTl, List.take_left' rfl]) hTl hc1 rfl
          (Src.own (i := 2) (q := 0) (cs := x.t.enc) (t := 32) (fr := (0, 0)) rfl rfl (fun j v hj => by simpa using hj)) (Task.one _) (by omega) ?_
        intro b' c2 rest' hle hlc _
        conv => whnf
        refine ⟨(i + 1, some (b', c2, rest')), [3], ?_, ⟨by simp only; omega, ?_⟩, by simp only; omega⟩
        · simp only [hs1 q, List.flatMap_append, List.length_append]
          exact Sub.of (by decide) (by simp [pickM, nth]) ⟨rfl, rfl, rfl, rfl, int_eq (i64_in (by omega) (by omega)), trivial⟩
        · simp only [hs1 q]
          exact ⟨by simpa using hlc, by simpa using hle⟩
      · conv => whnf
        refine ⟨(i + 1, some (b, cc, rest)), [0], ?_, ⟨by simp only; omega, ?_⟩, by simp only; omega⟩
        · simp only [hs0 q]
          exact Sub.of (by decide) rfl ⟨rfl, rfl, rfl, rfl, int_eq (i64_in (by omega) (by omega)), trivial⟩
        · simp only [hs0 q]
          exact ⟨hc1, hc2⟩
  · have hti : l.take i = l := List.take_of_length_le (by omega)
    rw [hti] at hst
    simp only [hti]
    rcases st with _ | ⟨b, cc, rest⟩
    · simp only at hst
      simp only
      conv => whnf
      refine ⟨fun q => absurd q (by simp [hlt]), fun _ => ?_⟩
      conv => whnf
      exact .mk ⟨_, [], _, rfl, by decide, rfl, trivial, rfl, none, 0, by rw [hst]; rfl, by rw [hst]; exact fun h => absurd rfl h⟩
    · simp only at hst
      simp only
      conv => whnf
      refine ⟨fun q => absurd q (by simp [hlt]), fun _ => ?_⟩
      conv => whnf
      refine .freeze 0 rfl rfl fun g4 hg4 hb4 => ?_
      exact .mk ⟨_, [], _, rfl, by decide, rfl, trivial, rfl, some ⟨b, 0, none⟩, cc, rfl, fun _ => ⟨_, rfl, fun j v hj => by
        have : ((((l.filter (avail now)).map (·.t)).flatMap Task.enc) ++ rest)[j]? = some v := by
          rw [List.getElem?_append_left (List.getElem?_eq_some_iff.1 hj).1]; exact hj
        simp only [cellG, addN, hb4, Nat.zero_add]
        simpa using this⟩⟩
end Go.Proofs.YtmhdegklhbmnlaaDoor
