/- WholeQueues: rows of tasks that are the same, and what is free. -/
import Derived.Test.YtmhdegklhbmnlaaDoorQFree
set_option linter.unusedVariables false
set_option linter.unusedSimpArgs false
set_option maxRecDepth 100000
namespace Go.Proofs.YtmhdegklhbmnlaaDoor
open Go Go.SX

theorem f_equal (g : GH) (A B : Option Addr) (c d : Nat) (l : List Task) (hA : Row g Task.enc A l) (hB : Row g Task.enc B l) (hl : l.length ≤ 10000) :
    Tri Tryd.prog 28 [.slice A l.length c, .slice B l.length d] g [] fun v g' m' => v = .bool true ∧ m' = [] := by
  refine Tri.vc [.val (.slice A l.length c), .val (.slice B l.length d)] Tryd.func28 rfl Tryd.ntmps28 rfl rfl ?_
  conv => whnf
  refine ⟨fun q => absurd q (by simp), fun _ => ?_⟩
  conv => whnf
  refine COK.loop (α := Nat) (fun i => [(0, .val (.slice A l.length c)), (1, .val (.slice B l.length d)), (12, .val (.int .i64 l.length)), (13, .val (.int .i64 i))]) (fun _ => []) (fun i _ => i ≤ l.length) (fun i => l.length - i) 0 [] (Sub.of (by decide) rfl ⟨rfl, rfl, rfl, rfl, trivial⟩) (Nat.zero_le _) ?_
  intro i g' hg hi
  refine vcC_ok _ _ _ _ _ ?_
  by_cases hlt : i < l.length
  · obtain ⟨x, hx⟩ : ∃ x, l[i]? = some x := ⟨_, List.getElem?_eq_getElem hlt⟩
    obtain ⟨a, rfl, hr⟩ := (hA.mono hg).at_ Task.len hx
    obtain ⟨b, rfl, hs⟩ := (hB.mono hg).at_ Task.len hx
    conv => whnf
    refine ⟨fun _ => ?_, fun h1 => absurd h1 (by simp [hlt])⟩
    conv => whnf
    refine COK.quiet (by kernel_rfl) (by kernel_rfl) ?_
    conv => whnf
    refine ⟨⟨by omega, by omega⟩, ?_⟩
    conv => whnf
    refine YN.loads rfl rfl rfl hr ?_
    conv => whnf
    refine ⟨⟨by omega, by omega⟩, ?_⟩
    conv => whnf
    refine YN.loads rfl rfl rfl hs ?_
    conv => whnf
    refine YN.neqAgg rfl rfl rfl Tryd.underlying32 Tryd.stoodInHeld32 Tryd.eqGuardType32 (by kernel_rfl) rfl ?_
    conv => whnf
    have hke : ((x.id == x.id) && ((x.kind == x.kind) && ((x.event == x.event) && ((x.seq == x.seq) && ((x.due == x.due) && ((x.attempt == x.attempt) && ((x.wf.toList == x.wf.toList) && ((x.run.toList == x.run.toList) && ((x.queue.toList == x.queue.toList) && true))))))))) = true := by
      rw [bytes_eq, bytes_eq, bytes_eq]; simp
    refine ⟨fun q => absurd ((congrArg Bool.not hke).symm.trans q) (by decide), fun _ => ?_⟩
    conv => whnf
    exact ⟨i + 1, [], Sub.of (by decide) rfl ⟨rfl, rfl, rfl, int_eq (i64_in (by omega) (by omega)), trivial⟩, by omega, by omega⟩
  · conv => whnf
    refine ⟨fun h1 => absurd h1 (by simp [hlt]), fun _ => ?_⟩
    conv => whnf
    exact .mk ⟨_, [], _, rfl, by decide, rfl, trivial, rfl, rfl⟩

theorem Own.of (x : Own) : x.t.enc = x.enc.take 9 := rfl
theorem f_loomFree (g : GH) (A B : Option Addr) (c d : Nat) (l : List Item) (r : List Own) (qt now : Int) (sl : Slot) (hA : Row g Item.enc A l) (hB : OwnAt 34 12 Own.enc r sl B d) (hl : l.length ≤ 10000) (hr : r.length = l.length)
    (he : (l.filter (avail now)).map (·.t) = (r.filter (freeOwn now)).map (·.t)) :
    Tri Tryd.prog 18 [.agg #[.slice A l.length c, .int .i64 qt], .slice B r.length d, .int .i64 now] g [sl] fun v g' m' => v = .bool true ∧ m' = [sl] := by
  refine Tri.vc [.val (.agg #[.slice A l.length c, .int .i64 qt]), .val (.slice B r.length d), .val (.int .i64 now)] Tryd.func18 rfl Tryd.ntmps18 rfl rfl ?_
  conv => whnf
  intro b1
  conv => whnf
  refine COK.dummy 0 ?_
  conv => whnf
  refine COK.loop (α := Nat × Slot × Option Addr × Nat) (fun x => [(1, .val (.slice B r.length d)), (2, .val (.int .i64 now)), (3, .own 1 0), (7, .val (.slice x.2.2.1 (((r.take x.1).filter (freeOwn now)).map (·.t)).length x.2.2.2)), (10, .val (.slice B r.length d)), (11, .val (.int .i64 r.length)), (12, .val (.int .i64 x.1))])
    (fun x => [sl, ⟨b1, .cells [.slice A l.length c, .int .i64 qt] 27 (0, 0)⟩, x.2.1])
    (fun x _ => x.1 ≤ r.length ∧ OwnAt 32 9 Task.enc (((r.take x.1).filter (freeOwn now)).map (·.t)) x.2.1 x.2.2.1 x.2.2.2)
    (fun x => r.length - x.1) (0, ⟨0, .dead⟩, none, 0) [0, 1, 2] (Sub.of (by decide) rfl ⟨rfl, rfl, rfl, rfl, rfl, rfl, rfl, trivial⟩) ⟨Nat.zero_le _, .nil _ (by simp)⟩ ?_
  rintro ⟨i, sr, C, cc⟩ g' hg ⟨hi, hO⟩
  simp only at hi hO
  refine vcC_ok _ _ _ _ _ ?_
  by_cases hlt : i < r.length
  · obtain ⟨x, hx⟩ : ∃ x, r[i]? = some x := ⟨_, List.getElem?_eq_getElem hlt⟩
    have hlen0 : (((r.take i).filter (freeOwn now)).map (·.t)).length ≤ 10000 := by
      rw [List.length_map]
      exact Nat.le_trans (List.length_filter_le _ _) (by rw [List.length_take]; omega)
    have hs0 : freeOwn now x = false → ((r.take (i + 1)).filter (freeOwn now)).map (·.t) = ((r.take i).filter (freeOwn now)).map (·.t) := fun h => by
      rw [List.take_add_one, hx]; simp [h]
    have hs1 : freeOwn now x = true → ((r.take (i + 1)).filter (freeOwn now)).map (·.t) = ((r.take i).filter (freeOwn now)).map (·.t) ++ [x.t] := fun h => by
      rw [List.take_add_one, hx]; simp [h]
    revert hs0 hs1 hO hlen0
    simp only
    generalize hT : ((r.take i).filter (freeOwn now)).map (·.t) = T
    intro hO hlen0 hs0 hs1
    obtain ⟨a, rfl, hrd⟩ := (hB.in_ (g := g') (m := [sl, ⟨b1, .cells [.slice A l.length c, .int .i64 qt] 27 (0, 0)⟩, sr]) 0 rfl).at_ Own.len hx
    conv => whnf
    refine ⟨fun _ => ?_, fun q => absurd q (by simp [hlt])⟩
    conv => whnf
    refine ⟨⟨by omega, by omega⟩, ?_⟩
    conv => whnf
    refine OOK.yn (YN.loadsIn rfl rfl rfl hrd ?_)
    conv => whnf
    intro b2
    conv => whnf
    refine ⟨fun q => ?_, fun q => ?_⟩
    · conv => whnf
      refine ⟨fun q2 => ?_, fun q2 => ?_⟩
      · conv => whnf
        intro b3
        conv => whnf
        refine OOK.appendRow x.t 2 Task.len rfl rfl rfl rfl (.inl ⟨_, rfl⟩) rfl (size := 9) (bytes := 96) rfl rfl rfl (by decide) rfl rfl hO
          (Src.own (i := 4) (q := 0) (cs := x.t.enc) (t := 32) (fr := (0, 0)) rfl rfl (fun j v hj => by simpa using hj)) (Task.one _) (by omega) ?_
        intro d' s' A' c' hO'
        conv => whnf
        refine ⟨(i + 1, s', A', c'), [0, 1, 5], ?_, ⟨by simp only; omega, ?_⟩, by simp only; omega⟩
        · simp only [hs1 (by unfold freeOwn; rw [q, q2]; rfl), List.length_append]
          exact Sub.of (by decide) rfl ⟨rfl, rfl, rfl, rfl, rfl, rfl, int_eq (i64_in (by omega) (by omega)), trivial⟩
        · simp only [hs1 (by unfold freeOwn; rw [q, q2]; rfl)]
          exact hO'
      · conv => whnf
        refine ⟨(i + 1, sr, C, cc), [0, 1, 2], ?_, ⟨by simp only; omega, ?_⟩, by simp only; omega⟩
        · simp only [hs0 (by unfold freeOwn; rw [q, q2]; rfl)]
          exact Sub.of (by decide) rfl ⟨rfl, rfl, rfl, rfl, rfl, rfl, int_eq (i64_in (by omega) (by omega)), trivial⟩
        · simp only [hs0 (by unfold freeOwn; rw [q, q2]; rfl)]
          exact hO
    · conv => whnf
      refine ⟨(i + 1, sr, C, cc), [0, 1, 2], ?_, ⟨by simp only; omega, ?_⟩, by simp only; omega⟩
      · simp only [hs0 (by unfold freeOwn; rw [q]; rfl)]
        exact Sub.of (by decide) rfl ⟨rfl, rfl, rfl, rfl, rfl, rfl, int_eq (i64_in (by omega) (by omega)), trivial⟩
      · simp only [hs0 (by unfold freeOwn; rw [q]; rfl)]
        exact hO
  · have hti : r.take i = r := List.take_of_length_le (by omega)
    rw [hti] at hO
    simp only [hti]
    have hle : ((r.filter (freeOwn now)).map (·.t)).length ≤ 10000 := by
      rw [List.length_map]
      exact Nat.le_trans (List.length_filter_le _ _) (by omega)
    revert hO hle
    rw [← he]
    intro hO hle
    conv => whnf
    refine ⟨fun q => absurd q (by simp [hlt]), fun _ => ?_⟩
    conv => whnf
    refine OOK.call [] rfl rfl rfl (by kernel_rfl) rfl (f_free g' A c l qt now (hA.mono hg) hl) (by decide) rfl ?_
    rintro v g2 m2 hg2 ⟨rfl, A2, c2, rfl, hR2⟩
    have hlb : (l.length == r.length) = true := by rw [hr]; simp
    rcases hO with ⟨bd, h0⟩ | ⟨bb, cc, rest, k1, k2⟩
    · conv => whnf
      refine OOK.call [] rfl rfl rfl (by kernel_rfl) rfl (f_equal g2 A2 none c2 0 _ hR2 (fun h => absurd h0 h) hle) (by decide) rfl ?_
      rintro v g3 m3 hg3 ⟨rfl, rfl⟩
      conv => whnf
      refine ⟨fun _ => ?_, fun q => by cases q⟩
      conv => whnf
      exact .mk ⟨_, [0], _, rfl, by decide, rfl, ⟨rfl, trivial⟩, congrArg Value.bool (by rw [hr]; simp), rfl⟩
    · conv => whnf
      refine OOK.freeze 2 rfl rfl fun g4 hg4 hb4 => ?_
      refine OOK.call [] rfl rfl rfl (by kernel_rfl) rfl (f_equal g4 A2 _ c2 cc _ (hR2.mono hg4) (row_of hb4) hle) (by decide) rfl ?_
      rintro v g3 m3 hg3 ⟨rfl, rfl⟩
      conv => whnf
      refine ⟨fun _ => ?_, fun q => by cases q⟩
      conv => whnf
      exact .mk ⟨_, [0], _, rfl, by decide, rfl, ⟨rfl, trivial⟩, congrArg Value.bool (by rw [hr]; simp), rfl⟩
end Go.Proofs.YtmhdegklhbmnlaaDoor
