/- WholeTimers: the small functions. -/
import Derived.Test.YtnkfpapegknlfaaTHeap
set_option linter.unusedVariables false
set_option linter.unusedSimpArgs false
set_option maxRecDepth 100000
namespace Go.Proofs.Ytnkfpapegknlfaa
open Go Go.SX

def intBox (b : Nat) (x : Int) : Slot := ⟨b, .cells [.int .i64 x] 3 (0, 0)⟩
def qBox (b : Nat) (A : Option Addr) (n c : Nat) : Slot := ⟨b, .cells [.slice A n c, .bool true] 60 (0, 0)⟩
theorem f_before (g : GH) (x y : Item) : Tri Try.prog 34 [.agg x.enc.toArray, .agg y.enc.toArray] g [] fun v g' m' => v = .bool (lt x y) ∧ m' = [] := by
  refine Tri.vc [.val (.agg x.enc.toArray), .val (.agg y.enc.toArray)] Try.func34 rfl Try.ntmps34 rfl rfl ?_
  conv => whnf
  intro b1
  conv => whnf
  intro b2
  conv => whnf
  refine ⟨fun h1 => ?_, fun h1 => ?_⟩
  · conv => whnf
    exact .mk ⟨_, [], _, rfl, by decide, rfl, trivial, by unfold lt; rw [h1]; rfl, rfl⟩
  · conv => whnf
    refine ⟨fun h2 => ?_, fun h2 => ?_⟩
    · conv => whnf
      exact .mk ⟨_, [], _, rfl, by decide, rfl, trivial, by unfold lt; rw [h1, show decide (x.due = y.due) = true from h2]; rfl, rfl⟩
    · conv => whnf
      exact .mk ⟨_, [], _, rfl, by decide, rfl, trivial, by unfold lt; rw [h1, show decide (x.due = y.due) = false from h2]; rfl, rfl⟩
theorem f_ready (g : GH) (b : Nat) (A : Option Addr) (n c : Nat) : Tri Try.prog 26 [.pointer (some ⟨b, 0, none⟩)] g [qBox b A n c] fun v g' m' => v = .bool true ∧ m' = [qBox b A n c] := by
  refine Tri.vc [.own 0 0] Try.func26 rfl Try.ntmps26 rfl rfl ?_
  conv => whnf
  refine ⟨fun _ => ?_, (by intro q; cases q)⟩
  conv => whnf
  exact .mk ⟨_, [0], _, rfl, by decide, rfl, ⟨rfl, trivial⟩, rfl, rfl⟩
theorem f_new (g : GH) : Tri Try.prog 5 [] g [] fun v g' m' => ∃ b, v = .pointer (some ⟨b, 0, none⟩) ∧ m' = [qBox b none 0 0] := by
  refine Tri.vc [] Try.func5 rfl Try.ntmps5 rfl rfl ?_
  conv => whnf
  intro b
  conv => whnf
  exact .mk ⟨_, [0], _, rfl, by decide, rfl, trivial, b, rfl, rfl⟩
theorem c_id (g : GH) (b : Nat) (id : Int) (x : Item) : Tri Try.prog 11 [.agg x.enc.toArray, .pointer (some ⟨b, 0, none⟩)] g [intBox b id] fun v g' m' => v = .bool (x.id == id) ∧ m' = [intBox b id] := by
  refine Tri.vc [.val (.agg x.enc.toArray), .own 0 0] Try.func11 rfl Try.ntmps11 rfl rfl ?_
  conv => whnf
  intro b2
  conv => whnf
  exact .mk ⟨_, [0], _, rfl, by decide, rfl, ⟨rfl, trivial⟩, rfl, rfl⟩
theorem c_qid (g : GH) (b : Nat) (id : Int) (x : Item) : Tri Try.prog 37 [.agg x.enc.toArray, .pointer (some ⟨b, 0, none⟩)] g [intBox b id] fun v g' m' => v = .bool (x.id == id) ∧ m' = [intBox b id] := by
  refine Tri.vc [.val (.agg x.enc.toArray), .own 0 0] Try.func37 rfl Try.ntmps37 rfl rfl ?_
  conv => whnf
  intro b2
  conv => whnf
  exact .mk ⟨_, [0], _, rfl, by decide, rfl, ⟨rfl, trivial⟩, rfl, rfl⟩

/-- 'a before b' as a comparison that SortFunc takes. -/
theorem f_cmp (g : GH) (x y : Item) : Tri Try.prog 33 [.agg x.enc.toArray, .agg y.enc.toArray] g [] fun v g' m' => v = .int .i64 (if lt x y then -1 else 1) ∧ m' = [] := by
  refine Tri.vc [.val (.agg x.enc.toArray), .val (.agg y.enc.toArray)] Try.func33 rfl Try.ntmps33 rfl rfl ?_
  conv => whnf
  intro b1
  conv => whnf
  intro b2
  conv => whnf
  refine OOK.call [] rfl rfl rfl (by kernel_rfl) rfl (f_before g x y) (by decide) rfl ?_
  rintro v g' m' hg ⟨rfl, rfl⟩
  conv => whnf
  refine ⟨fun h1 => ?_, fun h1 => ?_⟩
  · conv => whnf
    exact .mk ⟨_, [], _, rfl, by decide, rfl, trivial, by rw [h1]; rfl, rfl⟩
  · conv => whnf
    exact .mk ⟨_, [], _, rfl, by decide, rfl, trivial, by rw [h1]; rfl, rfl⟩
theorem f_len (g : GH) (b : Nat) (A : Option Addr) (n c : Nat) : Tri Try.prog 22 [.pointer (some ⟨b, 0, none⟩)] g [qBox b A n c] fun v g' m' => v = .int .i64 n ∧ m' = [qBox b A n c] := by
  refine Tri.vc [.own 0 0] Try.func22 rfl Try.ntmps22 rfl rfl ?_
  conv => whnf
  refine OOK.call [0] rfl rfl rfl (by kernel_rfl) rfl (f_ready g b A n c) (by decide) rfl ?_
  rintro v g' m' hg ⟨rfl, rfl⟩
  conv => whnf
  refine ⟨(by intro q; cases q), fun _ => ?_⟩
  conv => whnf
  exact .mk ⟨_, [0], _, rfl, by decide, rfl, ⟨rfl, trivial⟩, rfl, rfl⟩
theorem f_find (g : GH) (b : Nat) (A : Option Addr) (c : Nat) (l : List Item) (s : Slot) (id : Int) (hO : OwnAt 29 2 Item.enc l s A c) (hl : l.length ≤ 100000) :
    Tri Try.prog 28 [.pointer (some ⟨b, 0, none⟩), .int .i64 id] g [qBox b A l.length c, s] fun v g' m' => m' = [qBox b A l.length c, s] ∧ ((∃ k, l.findIdx? (·.id == id) = some k ∧ v = .int .i64 (k : Int)) ∨ (l.findIdx? (·.id == id) = none ∧ v = .int .i64 (-1))) := by
  refine Tri.vc [.own 0 0, .val (.int .i64 id)] Try.func28 rfl Try.ntmps28 rfl rfl ?_
  conv => whnf
  intro b2
  conv => whnf
  refine OOK.call [2, 1] rfl rfl rfl (by kernel_rfl) rfl (indexItem Item.enc Item.len g [intBox b2 id, s] A c l _ _ (·.id == id) (hO.in_ 1 rfl) (by omega) (by kernel_rfl) fun g' hg x hx => Tri.sub [0] (by decide) rfl (c_qid g' b2 id x)) (by decide) rfl ?_
  rintro v g' m' hg ⟨rfl, hv⟩
  conv => whnf
  exact .mk ⟨_, [0, 1], _, rfl, by decide, rfl, ⟨rfl, rfl, trivial⟩, rfl, hv⟩
theorem f_next (g : GH) (b : Nat) (A : Option Addr) (c : Nat) (l : List Item) (s : Slot) (hO : OwnAt 29 2 Item.enc l s A c) (hl : l.length ≤ 100000) :
    Tri Try.prog 21 [.pointer (some ⟨b, 0, none⟩)] g [qBox b A l.length c, s] fun v g' m' => m' = [qBox b A l.length c, s] ∧ ((l = [] ∧ v = .tuple #[.agg #[.int .i64 0, .int .i64 0], .bool false]) ∨ ∃ x, l[0]? = some x ∧ v = .tuple #[.agg x.enc.toArray, .bool true]) := by
  refine Tri.vc [.own 0 0] Try.func21 rfl Try.ntmps21 rfl rfl ?_
  conv => whnf
  intro b2
  conv => whnf
  refine OOK.call [0] rfl rfl rfl (by kernel_rfl) rfl (f_ready g b A l.length c) (by decide) rfl ?_
  rintro v g' m' hg ⟨rfl, rfl⟩
  conv => whnf
  refine ⟨(by intro q; cases q), fun _ => ?_⟩
  conv => whnf
  refine ⟨fun h0 => ?_, fun h0 => ?_⟩
  · have : l = [] := List.eq_nil_of_length_eq_zero (by have := eq_of_beq h0; omega)
    conv => whnf
    exact .mk ⟨_, [0, 1], _, rfl, by decide, rfl, ⟨rfl, rfl, trivial⟩, rfl, .inl ⟨this, rfl⟩⟩
  · have hp : 0 < l.length := by
      have : l.length ≠ 0 := fun h => by rw [h] at h0; cases h0
      omega
    obtain ⟨x, hx⟩ : ∃ x, l[0]? = some x := ⟨_, List.getElem?_eq_getElem hp⟩
    obtain ⟨a, rfl, hr⟩ := (hO.in_ (g := g') (m := [qBox b A l.length c, s, ⟨b2, .cells [.int .i64 0, .int .i64 0] 29 (0, 0)⟩]) 1 rfl).at_ Item.len hx
    conv => whnf
    refine ⟨⟨by omega, by omega⟩, ?_⟩
    conv => whnf
    refine OOK.yn (YN.loadsIn rfl rfl rfl hr ?_)
    conv => whnf
    exact .mk ⟨_, [0, 1], _, rfl, by decide, rfl, ⟨rfl, rfl, trivial⟩, rfl, .inr ⟨x, hx, rfl⟩⟩
end Go.Proofs.Ytnkfpapegknlfaa
