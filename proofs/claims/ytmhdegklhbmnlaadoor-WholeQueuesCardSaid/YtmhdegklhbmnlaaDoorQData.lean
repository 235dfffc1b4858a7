/- WholeQueues: the data, and the functions that take slices of them. -/
import Derived.Test.YtmhdegklhbmnlaaDoorSxRow
import Derived.Test.YtmhdegklhbmnlaaDoorProg
set_option linter.unusedVariables false
set_option maxRecDepth 100000
namespace Go.Proofs.YtmhdegklhbmnlaaDoor
open Go Go.SX

structure Task where
  id : Int
  kind : Int
  event : Int
  seq : Int
  due : Int
  attempt : Int
  wf : ByteArray
  run : ByteArray
  queue : ByteArray
def Task.enc (t : Task) : List Value := [.int .i64 t.id, .int .i64 t.kind, .int .i64 t.event, .int .i64 t.seq, .int .i64 t.due, .int .i64 t.attempt, .string t.wf, .string t.run, .string t.queue]
structure Own where
  t : Task
  until_ : Int
  token : Int
  tries : Int
def Own.enc (x : Own) : List Value := [.int .i64 x.t.id, .int .i64 x.t.kind, .int .i64 x.t.event, .int .i64 x.t.seq, .int .i64 x.t.due, .int .i64 x.t.attempt, .string x.t.wf, .string x.t.run, .string x.t.queue, .int .i64 x.until_, .int .i64 x.token, .int .i64 x.tries]
structure Item where
  t : Task
  holder : ByteArray
  token : Int
  until_ : Int
  tries : Int
def Item.enc (x : Item) : List Value := [.int .i64 x.t.id, .int .i64 x.t.kind, .int .i64 x.t.event, .int .i64 x.t.seq, .int .i64 x.t.due, .int .i64 x.t.attempt, .string x.t.wf, .string x.t.run, .string x.t.queue, .string x.holder, .int .i64 x.token, .int .i64 x.until_, .int .i64 x.tries]

theorem Own.len (x : Own) : x.enc.length = 12 := rfl
theorem Item.len (x : Item) : x.enc.length = 13 := rfl
theorem Task.len (x : Task) : x.enc.length = 9 := rfl

/-- A test as a closure: it answers p, and changes nothing that it is handed. -/
def Tests {α : Type} (P : Program) (f : FuncId) (cap : Array Value) (enc : α → List Value) (g : GH) (ow : Mem) (p : α → Bool) (l : List α) : Prop :=
  ∀ g', g.le g' → ∀ x ∈ l, Tri P f (.agg (enc x).toArray :: cap.toList) g' ow fun v g'' m' => v = .bool (p x) ∧ m' = ow

theorem indexTask {α : Type} (enc : α → List Value) (hs : ∀ x, (enc x).length = 12) (g : GH) (ow : Mem) (A : Option Addr) (c : Nat) (l : List α) (f : FuncId) (cap : Array Value) (p : α → Bool)
    (hA : RowIn g ow enc A l) (hl : l.length ≤ 9223372036854775807) (hok : calleeOk Tryd.prog f = true) (hp : Tests Tryd.prog f cap enc g ow p l) :
    Tri Tryd.prog 6 [.slice A l.length c, .func (.func f) #[] cap] g ow fun v g' m' => m' = ow ∧ ((∃ k, l.findIdx? p = some k ∧ v = .int .i64 (k : Int)) ∨ (l.findIdx? p = none ∧ v = .int .i64 (-1))) := by
  refine Tri.vc [.val (.slice A l.length c), .val (.func (.func f) #[] cap)] Tryd.func6 rfl Tryd.ntmps6 rfl rfl ?_
  conv => whnf
  refine COK.loop (α := Nat) (fun i => [(0, .val (.slice A l.length c)), (1, .val (.func (.func f) #[] cap)), (7, .val (.int .i64 l.length)), (8, .val (.int .i64 i))]) (fun _ => ow) (fun i _ => i ≤ l.length ∧ ∀ x ∈ l.take i, p x = false) (fun i => l.length - i) 0 (List.range ow.length) ?_ ⟨Nat.zero_le _, by simp⟩ ?_
  · exact Sub.of List.nodup_range (pick_range _) ⟨rfl, rfl, rfl, rfl, trivial⟩
  · intro i g' hg ⟨hi, hno⟩
    by_cases hlt : i < l.length
    · obtain ⟨x, hx⟩ : ∃ x, l[i]? = some x := ⟨_, List.getElem?_eq_getElem hlt⟩
      obtain ⟨a, rfl, hr⟩ := (hA.mono hg).at_ hs hx
      refine vcC_ok _ _ _ _ _ ?_
      conv => whnf
      refine ⟨fun _ => ?_, fun h1 => absurd h1 (by simp [hlt])⟩
      conv => whnf
      refine ⟨⟨by omega, by omega⟩, ?_⟩
      conv => whnf
      refine OOK.yn (YN.loadsIn rfl rfl (by rw [hs]; rfl) hr ?_)
      conv => whnf
      refine OOK.callAll rfl rfl rfl hok rfl (hp g' hg x (List.mem_of_getElem? hx)) ?_
      rintro v g'' m' hg2 ⟨rfl, rfl⟩
      conv => whnf
      refine ⟨fun hpx => ?_, fun hpx => ?_⟩
      · conv => whnf
        refine .mk ⟨_, List.range _, _, rfl, List.nodup_range, pick_range _, extL_refl _, rfl, .inl ⟨i, ?_, rfl⟩⟩
        rw [List.findIdx?_eq_some_iff_getElem]
        refine ⟨hlt, by rw [List.getElem?_eq_getElem hlt] at hx; rw [Option.some.inj hx]; exact hpx, fun j hj => ?_⟩
        have := hno l[j] (List.mem_take_iff_getElem.2 ⟨j, by omega, rfl⟩)
        simp [this]
      · conv => whnf
        refine ⟨i + 1, List.range _, Sub.of List.nodup_range (pick_range _) ⟨rfl, rfl, rfl, int_eq (i64_in (by omega) (by omega)), trivial⟩, ⟨by omega, ?_⟩, by omega⟩
        intro y hy
        rw [List.take_add_one, hx] at hy
        rcases List.mem_append.1 hy with hy | hy
        · exact hno y hy
        · obtain rfl := List.mem_singleton.1 hy
          exact hpx
    · refine vcC_ok _ _ _ _ _ ?_
      conv => whnf
      refine ⟨fun h1 => absurd h1 (by simp [hlt]), fun _ => ?_⟩
      conv => whnf
      refine .mk ⟨_, List.range _, _, rfl, List.nodup_range, pick_range _, extL_refl _, rfl, .inr ⟨?_, rfl⟩⟩
      rw [List.findIdx?_eq_none_iff]
      intro x hx
      exact hno x (by rwa [List.take_of_length_le (by omega)])
end Go.Proofs.YtmhdegklhbmnlaaDoor
