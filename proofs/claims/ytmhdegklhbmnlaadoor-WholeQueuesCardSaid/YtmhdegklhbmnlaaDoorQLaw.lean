/- WholeQueues: what the queue holds and what the test holds beside it are the same. -/
import Derived.Test.YtmhdegklhbmnlaaDoorQLoom
set_option linter.unusedVariables false
set_option linter.unusedSimpArgs false
set_option maxRecDepth 100000
namespace Go.Proofs.YtmhdegklhbmnlaaDoor
open Go Go.SX

def r1 : ByteArray := ⟨#[114, 49]⟩
def Item.own (x : Item) : Own := ⟨x.t, x.until_, x.token, x.tries⟩
structure ItemOk (n : Int) (x : Item) : Prop where
  run : x.t.run = r1
  none_ : x.holder = noStr → x.until_ = 0
  t0 : 0 ≤ x.tries
  t1 : x.tries ≤ n
theorem ItemOk.mono {n n' : Int} {x : Item} (h : ItemOk n x) (k : n ≤ n') : ItemOk n' x := ⟨h.run, h.none_, h.t0, by have := h.t1; omega⟩
theorem avail_own {n : Int} {x : Item} (h : ItemOk n x) {now : Int} (h0 : 0 ≤ now) : freeOwn now x.own = avail now x := by
  unfold freeOwn avail Item.own
  by_cases hh : x.holder = noStr
  · have := h.none_ hh
    simp [hh, this, h0]
  · simp [hh]
theorem find_congr {α : Type} {p q : α → Bool} : ∀ {l : List α}, (∀ x ∈ l, p x = q x) → l.findIdx? p = l.findIdx? q
  | [], _ => rfl
  | x :: r, h => by
    rw [List.findIdx?_cons, List.findIdx?_cons, h x (by simp), find_congr (l := r) fun y hy => h y (by simp [hy])]
theorem find_free {n : Int} {l : List Item} (h : ∀ x ∈ l, ItemOk n x) {now : Int} (h0 : 0 ≤ now) : (l.map Item.own).findIdx? (freeOwn now) = l.findIdx? (avail now) := by
  rw [List.findIdx?_map]
  exact find_congr fun x hx => avail_own (h x hx) h0
theorem find_tok (l : List Item) (tok : Int) : (l.map Item.own).findIdx? (·.token == tok) = l.findIdx? (·.token == tok) := by
  rw [List.findIdx?_map]; rfl
theorem any_same {n : Int} {l : List Item} (h : ∀ x ∈ l, ItemOk n x) {t : Task} (ht : t.run = r1) : (l.map Item.own).any (sameTask t) = l.any (keyEq t) := by
  rw [List.any_map, Bool.eq_iff_iff, List.any_eq_true, List.any_eq_true]
  have : ∀ x ∈ l, sameTask t x.own = keyEq t x := fun x hx => by
    unfold sameTask keyEq Item.own
    simp only [(h x hx).run, ht, decide_true, Bool.true_and]
    exact Bool.and_comm _ _
  constructor
  · rintro ⟨x, hx, hs⟩; exact ⟨x, hx, by rw [← this x hx]; exact hs⟩
  · rintro ⟨x, hx, hs⟩; exact ⟨x, hx, by rw [← this x hx] at hs; exact hs⟩
theorem free_same {n : Int} {l : List Item} (h : ∀ x ∈ l, ItemOk n x) {now : Int} (h0 : 0 ≤ now) : (l.filter (avail now)).map (·.t) = ((l.map Item.own).filter (freeOwn now)).map (·.t) := by
  rw [List.filter_map, List.map_map]
  rw [List.filter_congr fun x hx => (avail_own (h x hx) h0).symm]
  rfl
theorem own_set (l : List Item) (k : Nat) (y : Item) : (l.set k y).map Item.own = (l.map Item.own).set k y.own := by rw [List.map_set]
theorem own_erase : ∀ (l : List Item) (k : Nat), (l.eraseIdx k).map Item.own = (l.map Item.own).eraseIdx k
  | [], k => by simp
  | x :: r, 0 => by simp
  | x :: r, k + 1 => by simp [own_erase r k]
theorem ok_set {n : Int} {l : List Item} (h : ∀ x ∈ l, ItemOk n x) {k : Nat} {y : Item} (hy : ItemOk n y) : ∀ x ∈ l.set k y, ItemOk n x := fun x hx => by
  rcases List.mem_or_eq_of_mem_set hx with hx | rfl
  · exact h x hx
  · exact hy
theorem ok_erase {n : Int} {l : List Item} (h : ∀ x ∈ l, ItemOk n x) {k : Nat} : ∀ x ∈ l.eraseIdx k, ItemOk n x := fun x hx => h x (List.mem_of_mem_eraseIdx hx)
theorem ok_fresh {n : Int} {l : List Item} (h : ∀ x ∈ l, ItemOk n x) {t : Task} (ht : t.run = r1) (hn : 0 ≤ n) : ∀ x ∈ l ++ [Item.fresh t], ItemOk n x := fun x hx => by
  rcases List.mem_append.1 hx with hx | hx
  · exact h x hx
  · obtain rfl := List.mem_singleton.1 hx
    exact ⟨ht, fun _ => rfl, by simp [Item.fresh], hn⟩

theorem f_contains {α : Type} (enc : α → List Value) (hs : ∀ x, (enc x).length = 12) (g : GH) (ow : Mem) (A : Option Addr) (c : Nat) (l : List α) (f : FuncId) (cap : Array Value) (p : α → Bool)
    (hA : RowIn g ow enc A l) (hl : l.length ≤ 9223372036854775807) (hok : calleeOk Tryd.prog f = true) (hp : Tests Tryd.prog f cap enc g ow p l) :
    Tri Tryd.prog 8 [.slice A l.length c, .func (.func f) #[] cap] g ow fun v g' m' => v = .bool (l.any p) ∧ m' = ow := by
  refine Tri.vc [.val (.slice A l.length c), .val (.func (.func f) #[] cap)] Tryd.func8 rfl Tryd.ntmps8 rfl rfl ?_
  conv => whnf
  refine OOK.callAll rfl rfl rfl (by kernel_rfl) rfl (indexTask enc hs g ow A c l f cap p hA hl hok hp) ?_
  rintro v g' m' hg ⟨rfl, hv⟩
  rcases hv with ⟨k, hk, rfl⟩ | ⟨hk, rfl⟩
  · conv => whnf
    refine .mk ⟨_, List.range _, _, rfl, List.nodup_range, pick_range _, extL_refl _, congrArg Value.bool ?_, rfl⟩
    obtain ⟨hlt, h1, _⟩ := List.findIdx?_eq_some_iff_getElem.1 hk
    rw [List.any_eq_true.2 ⟨_, List.getElem_mem hlt, h1⟩]
    exact decide_eq_true (by omega)
  · conv => whnf
    refine .mk ⟨_, List.range _, _, rfl, List.nodup_range, pick_range _, extL_refl _, congrArg Value.bool ?_, rfl⟩
    rw [List.findIdx?_eq_none_iff] at hk
    rw [List.any_eq_false.2 fun x hx => by simp [hk x hx]]
    rfl
end Go.Proofs.YtmhdegklhbmnlaaDoor
