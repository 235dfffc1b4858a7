/- WholeStores: the records of a journal beside the list's. -/
import Derived.Test.YtkkefknmahnjnaaSList2
import Derived.Test.YtkkefknmahnjnaaSChg
set_option linter.unusedVariables false
set_option linter.unusedSimpArgs false
set_option maxRecDepth 100000
namespace Go.Proofs.Ytkkefknmahnjnaa
open Go Go.SX

theorem f_records (g : GH) (jb db : Nat) (rs : List Rec) (s : Slot) (A : Option Addr) (c : Nat) (st : Bool) (hO : OwnAt 22 1 Rec.enc rs s A c) (hr : ∀ r ∈ rs, Row g encB r.A r.l) (hl : rs.length ≤ 1000) (hll : ∀ r ∈ rs, r.l.length ≤ 70000) :
    Tri Try.prog 36 [.pointer (some ⟨jb, 0, none⟩)] g [jBox jb db A rs.length c st, s] fun v g' m' =>
      ∃ rs' s' A' c', OwnAt 22 1 Rec.enc rs' s' A' c' ∧ rs'.map Rec.l = rs.map Rec.l ∧ (∀ r ∈ rs', Row g' encB r.A r.l) ∧ v = .slice A' rs'.length c' ∧ m' = [jBox jb db A rs.length c st, s, s'] := by
  refine Tri.vc [.own 0 0] Try.func36 rfl Try.ntmps36 rfl rfl ?_
  conv => whnf
  refine OOK.call [0] rfl rfl rfl (by kernel_rfl) rfl (f_nothing g jb db A rs.length c st) (by decide) rfl ?_
  rintro v_ g1 m_ hg1 ⟨rfl, rfl⟩
  conv => whnf
  refine ⟨(by intro q; cases q), fun _ => ?_⟩
  conv => whnf
  refine COK.dummy 0 ?_
  refine COK.loop (α := Hv) (fun x => [(3, .val (.slice x.A x.hs.length x.c)), (11, .val (.slice A rs.length c)), (12, .val (.int .i64 rs.length)), (13, .val (.int .i64 x.i))]) (fun x => [jBox jb db A rs.length c st, s, x.s])
    (fun x g => x.i ≤ rs.length ∧ OwnAt 22 1 Rec.enc x.hs x.s x.A x.c ∧ x.hs.map Rec.l = (rs.take x.i).map Rec.l ∧ ∀ r ∈ x.hs, Row g encB r.A r.l) (fun x => rs.length - x.i) ⟨0, [], ⟨0, .dead⟩, none, 0⟩ [0, 1, 2] (Sub.of (by decide) rfl ⟨rfl, rfl, rfl, rfl, trivial⟩) ⟨Nat.zero_le _, .nil _ rfl, rfl, fun r hr => by simp at hr⟩ ?_
  rintro ⟨i, hs1, s1, A1, c1⟩ g2 hg2 ⟨hi, hO1, he, hrw⟩
  simp only at hi hO1 he hrw
  have hl1 : hs1.length = i := by have := congrArg List.length he; simp at this; omega
  refine vcC_ok _ _ _ _ _ ?_
  by_cases hlt : i < rs.length
  · obtain ⟨p, hpp⟩ : ∃ p, rs[i]? = some p := ⟨_, List.getElem?_eq_getElem hlt⟩
    obtain ⟨a, rfl, hrd⟩ := (hO.in_ (g := g2) (m := [jBox jb db A rs.length c st, s, s1]) 1 rfl).at_ Rec.len hpp
    have hmem := List.mem_of_getElem? hpp
    have htk : rs.take (i + 1) = rs.take i ++ [p] := by rw [List.take_add_one, hpp]; rfl
    conv => whnf
    refine ⟨fun _ => ?_, fun h1 => absurd (of_decide_eq_false h1) (by show ¬ ¬ ((i : Int) < (rs.length : Int)); omega)⟩
    conv => whnf
    refine ⟨⟨by omega, by show (i : Int) < _; omega⟩, ?_⟩
    conv => whnf
    refine OOK.yn (YN.loadsIn1 rfl rfl rfl hrd ?_)
    conv => whnf
    refine OOK.call [] rfl rfl rfl (by kernel_rfl) rfl (f_cloneR g2 p.A p.c p.l ((hr p hmem).mono (hg1.trans hg2)) (by have := hll p hmem; omega)) (by decide) rfl ?_
    rintro v_ g3 m_ hg3 ⟨rfl, A3, c3, rfl, hc3, hr3⟩
    conv => whnf
    intro pb
    conv => whnf
    refine OOK.appendRow ⟨A3, c3, p.l⟩ 2 Rec.len rfl rfl rfl rfl (.inl ⟨_, rfl⟩) rfl (size := 1) (bytes := 24) rfl rfl rfl (by decide) rfl rfl hO1
      (Src.own (i := 3) (q := 0) (cs := Rec.enc ⟨A3, c3, p.l⟩) (t := 22) (fr := (0, 0)) rfl rfl (fun j v hj => by simpa using hj)) (Rec.one _) (by show (2 * (hs1.length + 1) + 1000) * 24 ≤ _; omega) ?_
    intro dd s' A' c' hO'
    conv => whnf
    refine ⟨⟨i + 1, hs1 ++ [⟨A3, c3, p.l⟩], s', A', c'⟩, [0, 1, 4], Sub.of (by decide) rfl ⟨?_, rfl, rfl, int_eq (i64_in (by show (-9223372036854775808 : Int) ≤ (i : Int) + 1; omega) (by show (i : Int) + 1 ≤ 9223372036854775807; omega)), trivial⟩, ⟨hlt, hO', ?_, ?_⟩, by show rs.length - (i + 1) < rs.length - i; omega⟩
    · show Value.slice A' (hs1.length + 1) c' = Value.slice A' (hs1 ++ [_]).length c'
      rw [List.length_append]; rfl
    · show (hs1 ++ [_]).map Rec.l = (rs.take (i + 1)).map Rec.l
      rw [List.map_append, he, htk, List.map_append]; rfl
    · intro r hr'
      rcases List.mem_append.1 hr' with h | h
      · exact (hrw r h).mono hg3
      · obtain rfl := List.mem_singleton.1 h; exact hr3
  · conv => whnf
    refine ⟨fun h1 => absurd (of_decide_eq_true h1) (by show ¬ ((i : Int) < (rs.length : Int)); omega), fun _ => ?_⟩
    conv => whnf
    have hid : i = rs.length := by omega
    rw [hid, List.take_length] at he
    exact .mk ⟨_, [0, 1, 2], _, rfl, by decide, rfl, ⟨rfl, rfl, trivial⟩, hs1, s1, A1, c1, hO1, he, hrw, rfl, rfl⟩
theorem f_eqFunc (g : GH) (ow : Mem) (A B : Option Addr) (c d : Nat) (l r : List Rec) (hA : RowIn g ow Rec.enc A l) (hB : RowIn g ow Rec.enc B r) (hl : l.length ≤ 1000) (he : l.map Rec.l = r.map Rec.l) (hlr : ∀ x ∈ l, Row g encB x.A x.l) (hrr : ∀ x ∈ r, Row g encB x.A x.l) :
    Tri Try.prog 35 [.slice A l.length c, .slice B r.length d, .func (.func 37) #[] #[]] g ow fun v g' m' => v = .bool true ∧ m' = ow := by
  have hlen : l.length = r.length := by have := congrArg List.length he; simpa using this
  refine Tri.vc [.val (.slice A l.length c), .val (.slice B r.length d), .val (.func (.func 37) #[] #[])] Try.func35 rfl Try.ntmps35 rfl rfl ?_
  conv => whnf
  refine ⟨fun q => absurd q (by simp [hlen]), fun _ => ?_⟩
  conv => whnf
  refine COK.loop (α := Nat) (fun x => [(1, .val (.slice B r.length d)), (2, .val (.func (.func 37) #[] #[])), (15, .val (.slice A l.length c)), (16, .val (.int .i64 l.length)), (17, .val (.int .i64 x))]) (fun _ => ow) (fun x _ => x ≤ l.length) (fun x => l.length - x) 0 (List.range ow.length) (Sub.of List.nodup_range (pick_range _) ⟨rfl, rfl, rfl, rfl, rfl, trivial⟩) (Nat.zero_le _) ?_
  intro i g1 hg1 hi
  refine vcC_ok _ _ _ _ _ ?_
  by_cases hlt : i < l.length
  · obtain ⟨x, hx⟩ : ∃ x, l[i]? = some x := ⟨_, List.getElem?_eq_getElem hlt⟩
    obtain ⟨y, hy⟩ : ∃ y, r[i]? = some y := ⟨_, List.getElem?_eq_getElem (by omega)⟩
    have hxy : x.l = y.l := by
      have h1 : (l.map Rec.l)[i]? = some x.l := by rw [List.getElem?_map, hx]; rfl
      have h2 : (r.map Rec.l)[i]? = some y.l := by rw [List.getElem?_map, hy]; rfl
      rw [he, h2] at h1
      exact (Option.some.inj h1).symm
    obtain ⟨a, rfl, hra⟩ := (hA.mono hg1).at_ Rec.len hx
    obtain ⟨b, rfl, hrb⟩ := (hB.mono hg1).at_ Rec.len hy
    conv => whnf
    refine ⟨fun _ => ?_, fun h1 => absurd h1 (by simp [hlt])⟩
    conv => whnf
    refine ⟨⟨by omega, by omega⟩, ?_⟩
    conv => whnf
    refine OOK.yn (YN.loadsIn1 rfl rfl rfl hra ?_)
    conv => whnf
    refine ⟨⟨by omega, by omega⟩, ?_⟩
    conv => whnf
    refine OOK.yn (YN.loadsIn1 rfl rfl rfl hrb ?_)
    conv => whnf
    refine OOK.callAll rfl rfl rfl (by kernel_rfl) rfl (Tri.sub [] List.nodup_nil rfl (f_beq g1 x.A y.A x.c y.c x.l y.l ((hlr x (List.mem_of_getElem? hx)).mono hg1) ((hrr y (List.mem_of_getElem? hy)).mono hg1))) ?_
    rintro v_ g2 m_ hg2 ⟨rfl, rfl⟩
    conv => whnf
    refine ⟨fun q => absurd q (by rw [hxy]; simp), fun _ => ?_⟩
    conv => whnf
    exact ⟨i + 1, List.range _, Sub.of List.nodup_range (pick_range _) ⟨rfl, rfl, rfl, rfl, int_eq (i64_in (by omega) (by omega)), trivial⟩, by omega, by omega⟩
  · conv => whnf
    refine ⟨fun h1 => absurd h1 (by simp [hlt]), fun _ => ?_⟩
    conv => whnf
    exact .mk ⟨_, List.range _, _, rfl, List.nodup_range, pick_range _, extL_refl _, rfl, rfl⟩
theorem f_agrees (g : GH) (sb jb db : Nat) (fuse : Int) (dead : Bool) (hs rs : List Rec) (s s2 : Slot) (A : Option Addr) (c : Nat) (B : Option Addr) (k d : Nat) (C : Option Addr) (e : Nat) (st : Bool)
    (hO : OwnAt 22 1 Rec.enc hs s A c) (hO2 : OwnAt 22 1 Rec.enc rs s2 C e) (he : rs.map Rec.l = hs.map Rec.l) (hr : ∀ r ∈ hs, Row g encB r.A r.l) (hr2 : ∀ r ∈ rs, Row g encB r.A r.l) (hl : hs.length ≤ 1000) (hll : ∀ r ∈ rs, r.l.length ≤ 70000) :
    Tri Try.prog 15 [.pointer (some ⟨sb, 0, none⟩), .pointer (some ⟨jb, 0, none⟩)] g [sBox sb fuse dead A hs.length c B k d, s, jBox jb db C rs.length e st, s2] fun v g' m' => v = .bool true ∧ m' = [sBox sb fuse dead A hs.length c B k d, s, jBox jb db C rs.length e st, s2] := by
  have hlen : rs.length = hs.length := by have := congrArg List.length he; simpa using this
  refine Tri.vc [.own 0 0, .own 2 0] Try.func15 rfl Try.ntmps15 rfl rfl ?_
  conv => whnf
  refine COK.draw [0] (by kernel_rfl) (by kernel_rfl) ?_
  conv => whnf
  refine OOK.call [2] rfl rfl rfl (by kernel_rfl) rfl (f_jlen g jb db C rs.length e st) (by decide) rfl ?_
  rintro v_ g1 m_ hg1 ⟨rfl, rfl⟩
  conv => whnf
  refine ⟨⟨rfl, rfl, rfl, rfl, trivial⟩, ?_⟩
  conv => whnf
  refine ⟨fun _ => ?_, fun q => absurd q (by rw [hlen]; simp)⟩
  conv => whnf
  refine OOK.call [2, 3] rfl rfl rfl (by kernel_rfl) rfl (f_records g1 jb db rs s2 C e st hO2 (fun r h => (hr2 r h).mono hg1) (by omega) hll) (by decide) rfl ?_
  rintro v_ g2 m_ hg2 ⟨rs', s', A', c', hO', he', hr', rfl, rfl⟩
  have hlen' : rs'.length = rs.length := by have := congrArg List.length he'; simpa using this
  conv => whnf
  refine ⟨⟨rfl, rfl, rfl, rfl, trivial⟩, ?_⟩
  conv => whnf
  refine OOK.call [1, 4] rfl rfl rfl (by kernel_rfl) rfl (f_eqFunc g2 [s, s'] A' A c' c rs' hs (hO'.in_ 1 rfl) (hO.in_ 0 rfl) (by omega) (he'.trans he) hr' (fun r h => (hr r h).mono (hg1.trans hg2))) (by decide) rfl ?_
  rintro v_ g3 m_ hg3 ⟨rfl, rfl⟩
  conv => whnf
  refine ⟨⟨rfl, rfl, rfl, rfl, trivial⟩, ?_⟩
  conv => whnf
  exact .mk ⟨_, [0, 1, 2, 3], _, rfl, by decide, rfl, ⟨rfl, rfl, rfl, rfl, trivial⟩, rfl, rfl⟩
end Go.Proofs.Ytkkefknmahnjnaa
