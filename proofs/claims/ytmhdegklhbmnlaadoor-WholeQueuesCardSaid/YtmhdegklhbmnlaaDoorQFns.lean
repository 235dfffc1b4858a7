/- WholeQueues: the small functions and the tests. -/
import Derived.Test.YtmhdegklhbmnlaaDoorQData
set_option linter.unusedVariables false
set_option maxRecDepth 100000
namespace Go.Proofs.YtmhdegklhbmnlaaDoor
open Go Go.SX

def noStr : ByteArray := ⟨#[]⟩
def intBox (b : Nat) (x : Int) : Slot := ⟨b, .cells [.int .i64 x] 3 (0, 0)⟩
def taskBox (b : Nat) (t : Task) : Slot := ⟨b, .cells t.enc 32 (0, 0)⟩
def avail (now : Int) (x : Item) : Bool := (decide (x.holder = noStr) || decide (now ≥ x.until_)) && decide (x.t.due ≤ now)

theorem c_tok (g : GH) (b : Nat) (tok : Int) (x : Own) : Tri Tryd.prog 7 [.agg x.enc.toArray, .pointer (some ⟨b, 0, none⟩)] g [intBox b tok] fun v g' m' => v = .bool (x.token == tok) ∧ m' = [intBox b tok] := by
  refine Tri.vc [.val (.agg x.enc.toArray), .own 0 0] Tryd.func7 rfl Tryd.ntmps7 rfl rfl ?_
  conv => whnf
  intro b2
  conv => whnf
  exact .mk ⟨_, [0], _, rfl, by decide, rfl, ⟨rfl, trivial⟩, rfl, rfl⟩
theorem c_itok (g : GH) (b : Nat) (tok : Int) (x : Item) : Tri Tryd.prog 32 [.agg x.enc.toArray, .pointer (some ⟨b, 0, none⟩)] g [intBox b tok] fun v g' m' => v = .bool (x.token == tok) ∧ m' = [intBox b tok] := by
  refine Tri.vc [.val (.agg x.enc.toArray), .own 0 0] Tryd.func32 rfl Tryd.ntmps32 rfl rfl ?_
  conv => whnf
  intro b2
  conv => whnf
  exact .mk ⟨_, [0], _, rfl, by decide, rfl, ⟨rfl, trivial⟩, rfl, rfl⟩
def sameTask (t : Task) (x : Own) : Bool := (x.t.id == t.id) && decide (x.t.wf = t.wf)
theorem c_same (g : GH) (b : Nat) (t : Task) (x : Own) : Tri Tryd.prog 9 [.agg x.enc.toArray, .pointer (some ⟨b, 0, none⟩)] g [taskBox b t] fun v g' m' => v = .bool (sameTask t x) ∧ m' = [taskBox b t] := by
  refine Tri.vc [.val (.agg x.enc.toArray), .own 0 0] Tryd.func9 rfl Tryd.ntmps9 rfl rfl ?_
  conv => whnf
  intro b2
  conv => whnf
  refine ⟨fun h => ?_, fun h => ?_⟩
  · conv => whnf
    exact .mk ⟨_, [0], _, rfl, by decide, rfl, ⟨rfl, trivial⟩, by unfold sameTask; rw [h, ← bytes_eq]; rfl, rfl⟩
  · conv => whnf
    exact .mk ⟨_, [0], _, rfl, by decide, rfl, ⟨rfl, trivial⟩, by unfold sameTask; rw [h]; rfl, rfl⟩
def freeOwn (now : Int) (x : Own) : Bool := decide (x.until_ ≤ now) && decide (x.t.due ≤ now)
theorem c_free (g : GH) (b : Nat) (now : Int) (x : Own) : Tri Tryd.prog 11 [.agg x.enc.toArray, .pointer (some ⟨b, 0, none⟩)] g [intBox b now] fun v g' m' => v = .bool (freeOwn now x) ∧ m' = [intBox b now] := by
  refine Tri.vc [.val (.agg x.enc.toArray), .own 0 0] Tryd.func11 rfl Tryd.ntmps11 rfl rfl ?_
  conv => whnf
  intro b2
  conv => whnf
  refine ⟨fun h => ?_, fun h => ?_⟩
  · conv => whnf
    exact .mk ⟨_, [0], _, rfl, by decide, rfl, ⟨rfl, trivial⟩, by unfold freeOwn; rw [h]; rfl, rfl⟩
  · conv => whnf
    exact .mk ⟨_, [0], _, rfl, by decide, rfl, ⟨rfl, trivial⟩, by unfold freeOwn; rw [h]; rfl, rfl⟩
theorem f_avail (g : GH) (now : Int) (x : Item) : Tri Tryd.prog 24 [.agg x.enc.toArray, .int .i64 now] g [] fun v g' m' => v = .bool (avail now x) ∧ m' = [] := by
  have he : ∀ b, (x.holder.toList == (⟨#[]⟩ : ByteArray).toList) = b → decide (x.holder = noStr) = b := fun b h => by rw [← h, bytes_eq]; rfl
  refine Tri.vc [.val (.agg x.enc.toArray), .val (.int .i64 now)] Tryd.func24 rfl Tryd.ntmps24 rfl rfl ?_
  conv => whnf
  intro b2
  conv => whnf
  refine ⟨fun h => ?_, fun h => ?_⟩
  · have h' := he _ h
    conv => whnf
    exact .mk ⟨_, [], _, rfl, by decide, rfl, trivial, by unfold avail; rw [h']; rfl, rfl⟩
  · have h' := he _ h
    conv => whnf
    refine ⟨fun h2 => ?_, fun h2 => ?_⟩
    · conv => whnf
      exact .mk ⟨_, [], _, rfl, by decide, rfl, trivial, by unfold avail; rw [h', h2]; rfl, rfl⟩
    · conv => whnf
      exact .mk ⟨_, [], _, rfl, by decide, rfl, trivial, by unfold avail; rw [h', h2]; rfl, rfl⟩
theorem c_avail (g : GH) (b : Nat) (now : Int) (x : Item) : Tri Tryd.prog 23 [.agg x.enc.toArray, .pointer (some ⟨b, 0, none⟩)] g [intBox b now] fun v g' m' => v = .bool (avail now x) ∧ m' = [intBox b now] := by
  refine Tri.vc [.val (.agg x.enc.toArray), .own 0 0] Tryd.func23 rfl Tryd.ntmps23 rfl rfl ?_
  conv => whnf
  intro b2
  conv => whnf
  refine OOK.call [] rfl rfl rfl (by kernel_rfl) rfl (f_avail g now x) (by decide) rfl ?_
  rintro v g' m' hg ⟨rfl, rfl⟩
  conv => whnf
  exact .mk ⟨_, [0], _, rfl, by decide, rfl, ⟨rfl, trivial⟩, rfl, rfl⟩
def periodOk (now ttl : Int) : Bool := decide (0 ≤ now ∧ now ≤ 1099511627776 ∧ 1 ≤ ttl ∧ ttl ≤ 1099511627776)
theorem f_period (g : GH) (now ttl : Int) (h1 : 0 ≤ now) (h2 : now ≤ 1099511627776) (h3 : 1 ≤ ttl) (h4 : ttl ≤ 1099511627776) : Tri Tryd.prog 21 [.int .i64 now, .int .i64 ttl] g [] fun v g' m' => v = .bool true ∧ m' = [] := by
  refine Tri.vc [.val (.int .i64 now), .val (.int .i64 ttl)] Tryd.func21 rfl Tryd.ntmps21 rfl rfl ?_
  conv => whnf
  refine ⟨fun q1 => ?_, fun q => absurd (of_decide_eq_false q) (by omega)⟩
  conv => whnf
  refine ⟨fun q1 => ?_, fun q => absurd (of_decide_eq_false q) (by omega)⟩
  conv => whnf
  refine ⟨fun q1 => ?_, fun q => absurd (of_decide_eq_false q) (by omega)⟩
  conv => whnf
  exact .mk ⟨_, [], _, rfl, by decide, rfl, trivial, congrArg Value.bool (decide_eq_true h4), rfl⟩
theorem f_keyOf (g : GH) (t : Task) : Tri Tryd.prog 19 [.agg t.enc.toArray] g [] fun v g' m' => v = .agg #[.string t.wf, .string t.run, .int .i64 t.id] ∧ m' = [] := by
  refine Tri.vc [.val (.agg t.enc.toArray)] Tryd.func19 rfl Tryd.ntmps19 rfl rfl ?_
  conv => whnf
  intro b2
  conv => whnf
  intro b3
  conv => whnf
  exact .mk ⟨_, [], _, rfl, by decide, rfl, trivial, rfl, rfl⟩
/-! ### a digit as text -/
def dig (n : Int) : ByteArray := (⟨#[48, 49, 50, 51, 52, 53, 54, 55, 56, 57, 97, 98, 99, 100, 101, 102, 103, 104, 105, 106, 107, 108, 109, 110, 111, 112, 113, 114, 115, 116, 117, 118, 119, 120, 121, 122]⟩ : ByteArray).extract n.toNat (n + 1).toNat
theorem f_small (g : GH) (n : Int) (h0 : 0 ≤ n) (h1 : n < 10) : Tri Tryd.prog 33 [.int .i64 n] g [] fun v g' m' => v = .string (dig n) ∧ m' = [] := by
  refine Tri.vc [.val (.int .i64 n)] Tryd.func33 rfl Tryd.ntmps33 rfl rfl ?_
  conv => whnf
  refine ⟨fun q1 => ?_, fun q => absurd (of_decide_eq_false q) (by omega)⟩
  conv => whnf
  have e : IntKind.i64.wrap (n + 1) = n + 1 := i64_in (by omega) (by omega)
  refine ⟨⟨⟨by rw [e]; omega, ?_⟩, h0, by rw [e]; omega⟩, ?_⟩
  · show IntKind.i64.wrap (n + 1) ≤ 36
    rw [e]; omega
  conv => whnf
  exact .mk ⟨_, [], _, rfl, by decide, rfl, trivial, by show Value.string _ = _; rw [e]; rfl, rfl⟩
theorem f_fmtInt (g : GH) (n : Int) (h0 : 0 ≤ n) (h1 : n < 10) : Tri Tryd.prog 31 [.int .i64 n, .int .i64 10] g [] fun v g' m' => v = .string (dig n) ∧ m' = [] := by
  refine Tri.vc [.val (.int .i64 n), .val (.int .i64 10)] Tryd.func31 rfl Tryd.ntmps31 rfl rfl ?_
  conv => whnf
  refine ⟨fun _ => ?_, fun q => by cases q⟩
  conv => whnf
  refine ⟨fun _ => ?_, fun q => absurd (of_decide_eq_false q) (by omega)⟩
  conv => whnf
  refine ⟨fun _ => ?_, fun q => absurd (of_decide_eq_false q) (by omega)⟩
  conv => whnf
  refine OOK.call [] rfl rfl rfl (by kernel_rfl) rfl (f_small g n h0 h1) (by decide) rfl ?_
  rintro v g' m' hg ⟨rfl, rfl⟩
  conv => whnf
  exact .mk ⟨_, [], _, rfl, by decide, rfl, trivial, rfl, rfl⟩
theorem f_itoa2 (g : GH) (n : Int) (h0 : 0 ≤ n) (h1 : n < 10) : Tri Tryd.prog 25 [.int .i64 n] g [] fun v g' m' => v = .string (dig n) ∧ m' = [] := by
  refine Tri.vc [.val (.int .i64 n)] Tryd.func25 rfl Tryd.ntmps25 rfl rfl ?_
  conv => whnf
  refine OOK.call [] rfl rfl rfl (by kernel_rfl) rfl (f_fmtInt g n h0 h1) (by decide) rfl ?_
  rintro v g' m' hg ⟨rfl, rfl⟩
  conv => whnf
  exact .mk ⟨_, [], _, rfl, by decide, rfl, trivial, rfl, rfl⟩
theorem f_itoa (g : GH) (n : Int) (h0 : 0 ≤ n) (h1 : n < 10) : Tri Tryd.prog 13 [.int .i64 n] g [] fun v g' m' => v = .string (dig n) ∧ m' = [] := by
  refine Tri.vc [.val (.int .i64 n)] Tryd.func13 rfl Tryd.ntmps13 rfl rfl ?_
  conv => whnf
  refine OOK.call [] rfl rfl rfl (by kernel_rfl) rfl (f_itoa2 g n h0 h1) (by decide) rfl ?_
  rintro v g' m' hg ⟨rfl, rfl⟩
  conv => whnf
  exact .mk ⟨_, [], _, rfl, by decide, rfl, trivial, rfl, rfl⟩
end Go.Proofs.YtmhdegklhbmnlaaDoor
