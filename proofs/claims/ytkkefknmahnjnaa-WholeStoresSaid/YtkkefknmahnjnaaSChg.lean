/- WholeStores: names of files, what is there, a change of a disk. -/
import Derived.Test.YtkkefknmahnjnaaSDisk
set_option linter.unusedVariables false
set_option linter.unusedSimpArgs false
set_option maxRecDepth 100000
namespace Go.Proofs.Ytkkefknmahnjnaa
open Go Go.SX

theorem YN.loadsIn1 {P : Program} {n : Nat} {o : Oper} {e : Env} {m : Mem} {g : GH} {t : TypeId} {x : Operand} {K : SV → Prop} {a : Addr} {v : Value} (hop : o.op = .load t x) (hx : e.va m x = some (.pointer (some a))) (ht : aggN P t = some none)
    (hc : ReadsIn g m a [v]) (k : K (.val v)) : YN P n o e m g K := by
  rcases hc with h | ⟨i, b, q, c, t', fr, h1, rfl, h2⟩
  · exact .load hop hx ht (by have := h 0 v rfl; rw [addN_eq] at this; simpa [Addr.add] using this) k
  · exact .loadOwn i hop hx ht h1 (h2 0 v rfl) k
def NameOk (s : ByteArray) : Prop := (s.toList == (ByteArray.mk #[]).toList) = false ∧ s.size ≤ 64
theorem ok_log : NameOk kLog := ⟨by rw [bytes_eq]; decide, by decide⟩
theorem ok_new : NameOk kNew := ⟨by rw [bytes_eq]; decide, by decide⟩
theorem f_index (g : GH) (A : Option Addr) (c : Nat) (l : List ByteArray) (s : ByteArray) (hA : Row g encS A l) (hl : l.length ≤ 1000) :
    Tri Try.prog 60 [.slice A l.length c, .string s] g [] fun v g' m' => m' = [] ∧ ∃ i : Int, v = .int .i64 i ∧ (0 ≤ i ↔ s ∈ l) := by
  refine Tri.vc [.val (.slice A l.length c), .val (.string s)] Try.func60 rfl Try.ntmps60 rfl rfl ?_
  conv => whnf
  refine COK.loop (α := Nat) (fun x => [(0, .val (.slice A l.length c)), (1, .val (.string s)), (7, .val (.int .i64 l.length)), (8, .val (.int .i64 x))]) (fun _ => []) (fun x _ => x ≤ l.length ∧ s ∉ l.take x) (fun x => l.length - x) 0 [] (Sub.of (by decide) rfl ⟨rfl, rfl, rfl, rfl, trivial⟩) ⟨Nat.zero_le _, by simp⟩ ?_
  rintro x g' hg ⟨hi, hno⟩
  refine vcC_ok _ _ _ _ _ ?_
  by_cases hlt : x < l.length
  · obtain ⟨y, hy⟩ : ∃ y, l[x]? = some y := ⟨_, List.getElem?_eq_getElem hlt⟩
    obtain ⟨a, rfl, hr⟩ := (hA.mono hg).at_ encS_len hy
    conv => whnf
    refine ⟨fun _ => ?_, fun h1 => absurd h1 (by simp [hlt])⟩
    conv => whnf
    refine ⟨⟨by omega, by omega⟩, ?_⟩
    conv => whnf
    refine OOK.yn (YN.load rfl rfl rfl (v := .string y) (by have := hr 0 _ rfl; rw [addN_add, Nat.add_zero] at this; exact this) ?_)
    conv => whnf
    refine ⟨fun q => ?_, fun q => ?_⟩
    · conv => whnf
      have hsy : s = y := of_decide_eq_true (bytes_eq.symm.trans q)
      exact .mk ⟨_, [], _, rfl, by decide, rfl, trivial, rfl, _, rfl, ⟨fun _ => hsy ▸ List.mem_of_getElem? hy, fun _ => by omega⟩⟩
    · conv => whnf
      have hsy : s ≠ y := of_decide_eq_false (bytes_eq.symm.trans q)
      refine ⟨x + 1, [], Sub.of (by decide) rfl ⟨rfl, rfl, rfl, int_eq (i64_in (by omega) (by omega)), trivial⟩, ⟨hlt, ?_⟩, by omega⟩
      rw [List.take_add_one, hy]
      simp only [Option.toList_some, List.mem_append, List.mem_singleton, not_or]
      exact ⟨hno, hsy⟩
  · conv => whnf
    refine ⟨fun h1 => absurd h1 (by simp [hlt]), fun _ => ?_⟩
    conv => whnf
    refine .mk ⟨_, [], _, rfl, by decide, rfl, trivial, rfl, _, rfl, ⟨fun h => absurd h (by decide), fun h => ?_⟩⟩
    rw [List.take_of_length_le (by omega)] at hno
    exact absurd h hno
theorem f_contains (g : GH) (A : Option Addr) (c : Nat) (l : List ByteArray) (s : ByteArray) (hA : Row g encS A l) (hl : l.length ≤ 1000) :
    Tri Try.prog 39 [.slice A l.length c, .string s] g [] fun v g' m' => m' = [] ∧ ∃ b : Bool, v = .bool b ∧ (b = true ↔ s ∈ l) := by
  refine Tri.vc [.val (.slice A l.length c), .val (.string s)] Try.func39 rfl Try.ntmps39 rfl rfl ?_
  conv => whnf
  refine OOK.call [] rfl rfl rfl (by kernel_rfl) rfl (f_index g A c l s hA hl) (by decide) rfl ?_
  rintro v_ g1 m_ hg1 ⟨rfl, i, rfl, hi⟩
  conv => whnf
  exact .mk ⟨_, [], _, rfl, by decide, rfl, trivial, rfl, _, rfl, by rw [← hi]; exact decide_eq_true_iff⟩
theorem f_eqS (g : GH) (A B : Option Addr) (c d : Nat) (l : List ByteArray) (hA : Row g encS A l) (hB : RowIn g [] encS B l) (hl : l.length ≤ 1000) :
    Tri Try.prog 20 [.slice A l.length c, .slice B l.length d] g [] fun v g' m' => v = .bool true ∧ m' = [] := by
  refine Tri.vc [.val (.slice A l.length c), .val (.slice B l.length d)] Try.func20 rfl Try.ntmps20 rfl rfl ?_
  conv => whnf
  refine ⟨fun q => absurd q (by simp), fun _ => ?_⟩
  conv => whnf
  refine COK.loop (α := Nat) (fun x => [(0, .val (.slice A l.length c)), (1, .val (.slice B l.length d)), (12, .val (.int .i64 l.length)), (13, .val (.int .i64 x))]) (fun _ => []) (fun x _ => x ≤ l.length) (fun x => l.length - x) 0 [] (Sub.of (by decide) rfl ⟨rfl, rfl, rfl, rfl, trivial⟩) (Nat.zero_le _) ?_
  intro x g' hg hi
  refine vcC_ok _ _ _ _ _ ?_
  by_cases hlt : x < l.length
  · obtain ⟨y, hy⟩ : ∃ y, l[x]? = some y := ⟨_, List.getElem?_eq_getElem hlt⟩
    obtain ⟨a, rfl, hr⟩ := (hA.mono hg).at_ encS_len hy
    obtain ⟨b, rfl, hs⟩ := (hB.mono hg).at_ encS_len hy
    conv => whnf
    refine ⟨fun _ => ?_, fun h1 => absurd h1 (by simp [hlt])⟩
    conv => whnf
    refine COK.quiet (by kernel_rfl) (by kernel_rfl) ?_
    conv => whnf
    refine ⟨⟨by omega, by omega⟩, ?_⟩
    conv => whnf
    refine YN.load rfl rfl rfl (v := .string y) (by have := hr 0 _ rfl; rw [addN_add, Nat.add_zero] at this; exact this) ?_
    conv => whnf
    refine ⟨⟨by omega, by omega⟩, ?_⟩
    conv => whnf
    rcases hs with hs | ⟨i, _, _, _, _, _, h1, _⟩
    · refine YN.load rfl rfl rfl (v := .string y) (by have := hs 0 _ rfl; rw [addN_add, Nat.add_zero] at this; exact this) ?_
      conv => whnf
      refine ⟨fun q => ?_, fun _ => ?_⟩
      · have hyy : (y.toList == y.toList) = true := by rw [bytes_eq]; simp
        exact absurd ((congrArg Bool.not hyy).symm.trans q) (by decide)
      conv => whnf
      exact ⟨x + 1, [], Sub.of (by decide) rfl ⟨rfl, rfl, rfl, int_eq (i64_in (by omega) (by omega)), trivial⟩, by omega, by omega⟩
    · simp at h1
  · conv => whnf
    refine ⟨fun h1 => absurd h1 (by simp [hlt]), fun _ => ?_⟩
    conv => whnf
    exact .mk ⟨_, [], _, rfl, by decide, rfl, trivial, rfl, rfl⟩
theorem f_named (g : GH) (db mb : Nat) (d : Dk) (s : Slot) (A : Option Addr) (c : Nat) (l : List ByteArray) (hA : RowIn g [dBox db mb d, s] encS A l) (hl : l.length ≤ 1000) (hn : ∀ x ∈ l, NameOk x) (hd : d.stopped = false) :
    Tri Try.prog 55 [.pointer (some ⟨db, 0, none⟩), .slice A l.length c] g [dBox db mb d, s] fun v g' m' => v = .int .i64 0 ∧ m' = [dBox db mb d, s] := by
  refine Tri.vc [.own 0 0, .val (.slice A l.length c)] Try.func55 rfl Try.ntmps55 rfl rfl ?_
  conv => whnf
  refine OOK.call [0] rfl rfl rfl (by kernel_rfl) rfl (f_working g db mb d) (by decide) rfl ?_
  rintro v_ g1 m_ hg1 ⟨rfl, rfl⟩
  conv => whnf
  refine ⟨fun q => absurd q (by rw [hd]; decide), fun _ => ?_⟩
  conv => whnf
  refine COK.loop (α := Nat) (fun x => [(13, .val (.slice A l.length c)), (14, .val (.int .i64 l.length)), (15, .val (.int .i64 x))]) (fun _ => [dBox db mb d, s]) (fun x _ => x ≤ l.length) (fun x => l.length - x) 0 [0, 1] (Sub.of (by decide) rfl ⟨rfl, rfl, rfl, trivial⟩) (Nat.zero_le _) ?_
  intro x g' hg hi
  refine vcC_ok _ _ _ _ _ ?_
  by_cases hlt : x < l.length
  · obtain ⟨y, hy⟩ : ∃ y, l[x]? = some y := ⟨_, List.getElem?_eq_getElem hlt⟩
    obtain ⟨a, rfl, hr⟩ := (hA.mono (hg1.trans hg)).at_ encS_len hy
    obtain ⟨hn1, hn2⟩ := hn y (List.mem_of_getElem? hy)
    conv => whnf
    refine ⟨fun _ => ?_, fun h1 => absurd h1 (by simp [hlt])⟩
    conv => whnf
    refine ⟨⟨by omega, by omega⟩, ?_⟩
    conv => whnf
    refine OOK.yn (YN.loadsIn1 rfl rfl rfl hr ?_)
    conv => whnf
    refine ⟨fun q => absurd (hn1.symm.trans q) (by decide), fun _ => ?_⟩
    conv => whnf
    refine ⟨fun q => absurd (of_decide_eq_true q) (by omega), fun _ => ?_⟩
    conv => whnf
    exact ⟨x + 1, [0, 1], Sub.of (by decide) rfl ⟨rfl, rfl, int_eq (i64_in (by omega) (by omega)), trivial⟩, by omega, by omega⟩
  · conv => whnf
    refine ⟨fun h1 => absurd h1 (by simp [hlt]), fun _ => ?_⟩
    conv => whnf
    exact .mk ⟨_, [0, 1], _, rfl, by decide, rfl, ⟨rfl, rfl, trivial⟩, rfl, rfl⟩
end Go.Proofs.Ytkkefknmahnjnaa
