/- WholeStores: a crash of a disk. -/
import Derived.Test.YtkkefknmahnjnaaSOps2
import Derived.Test.YtkkefknmahnjnaaSRead
set_option linter.unusedVariables false
set_option linter.unusedSimpArgs false
set_option maxRecDepth 100000
namespace Go.Proofs.Ytkkefknmahnjnaa
open Go Go.SX

def Keys (fs : List FE) : Prop := (fs.map FE.k).Nodup
theorem get_at : ∀ {fs : List FE} {i : Nat} {e : FE}, Keys fs → fs[i]? = some e → getF e.k fs = some e.f
  | [], i, e, _, h => by simp at h
  | x :: r, 0, e, _, h => by simp at h; subst h; simp [getF, ba_self]
  | x :: r, i + 1, e, hk, h => by
    unfold Keys at hk
    rw [List.map_cons, List.nodup_cons] at hk
    have hm : e.k ∈ r.map FE.k := List.mem_map_of_mem (List.mem_of_getElem? (by simpa using h))
    have : (e.k == x.k) = false := by
      cases hb : e.k == x.k with
      | false => rfl
      | true => exact absurd (ba_eq hb ▸ hm) hk.1
    simp only [getF, this]
    exact get_at hk.2 (by simpa using h)
theorem put_at : ∀ {fs : List FE} {i : Nat} {e : FE} (f : Fl) (c : Nat), Keys fs → fs[i]? = some e → putF e.k f c fs = fs.set i { e with f := f }
  | [], i, e, _, _, _, h => by simp at h
  | x :: r, 0, e, f, c, _, h => by simp at h; subst h; simp [putF, ba_self]
  | x :: r, i + 1, e, f, c, hk, h => by
    unfold Keys at hk
    rw [List.map_cons, List.nodup_cons] at hk
    have hm : e.k ∈ r.map FE.k := List.mem_map_of_mem (List.mem_of_getElem? (by simpa using h))
    have : (e.k == x.k) = false := by
      cases hb : e.k == x.k with
      | false => rfl
      | true => exact absurd (ba_eq hb ▸ hm) hk.1
    simp only [putF, this, List.set_cons_succ]
    rw [put_at f c hk.2 (by simpa using h)]
theorem Shape.keys {fs : List FE} (h : Shape fs) : Keys fs := by
  unfold Keys
  rcases h with rfl | ⟨f, n, rfl⟩ | ⟨f, n, f', n', hne, rfl⟩
  · exact List.nodup_nil
  · simp
  · show [kLog, kNew].Nodup
    decide
/-- How much of a file a crash keeps. -/
def kept (keep : Nat) (f : Fl) : Nat := f.safe + min keep (f.l.length - f.safe)
/-- A file behind a crash. -/
structure Cr (g : GH) (keep : Nat) (e e' : FE) : Prop where
  k : e'.k = e.k
  n : e'.n = e.n
  l : e'.f.l = e.f.l.take (kept keep e.f)
  safe : e'.f.safe = kept keep e.f
  cap : e'.f.l.length ≤ e'.f.c
  row : Row g encB e'.f.A e'.f.l
structure CrI (g : GH) (keep i : Nat) (fs fs' : List FE) : Prop where
  ks : fs'.map FE.k = fs.map FE.k
  at_ : ∀ (j : Nat) (e e' : FE), fs[j]? = some e → fs'[j]? = some e' → if j < i then Cr g keep e e' else e' = e
theorem CrI.mono {g g' : GH} {keep i : Nat} {fs fs' : List FE} (h : CrI g keep i fs fs') (k : g.le g') : CrI g' keep i fs fs' := ⟨h.ks, fun j e e' h1 h2 => by
  have := h.at_ j e e' h1 h2
  split at this
  · rename_i hj; rw [if_pos hj]; exact ⟨this.k, this.n, this.l, this.safe, this.cap, this.row.mono k⟩
  · rename_i hj; rw [if_neg hj]; exact this⟩
theorem f_crash (g : GH) (db mb : Nat) (d : Dk) (keep : Nat) (h : Fok g d) (hk : keep ≤ 1000) :
    Tri Try.prog 9 [.pointer (some ⟨db, 0, none⟩), .int .i64 keep] g [dBox db mb d, mBox mb d] fun v g' m' => v = .int .i64 0 ∧ ∃ fs', CrI g' keep fs'.length d.fs fs' ∧ m' = [dBox db mb ⟨fs', d.clock, false, false, 0⟩, mBox mb ⟨fs', d.clock, false, false, 0⟩] := by
  refine Tri.vc [.own 0 0, .val (.int .i64 keep)] Try.func9 rfl Try.ntmps9 rfl rfl ?_
  conv => whnf
  refine OOK.call [0] rfl rfl rfl (by kernel_rfl) rfl (f_ok g db mb d) (by decide) rfl ?_
  rintro v_ g1 m_ hg1 ⟨rfl, rfl⟩
  conv => whnf
  refine ⟨(by intro q; cases q), fun _ => ?_⟩
  conv => whnf
  refine ⟨fun q => absurd (of_decide_eq_true q) (by omega), fun _ => ?_⟩
  conv => whnf
  refine OOK.call [0, 1] rfl rfl rfl (by kernel_rfl) rfl (f_names g1 db mb d (h.mono hg1)) (by decide) rfl ?_
  rintro v_ g2 m_ hg2 ⟨rfl, A, c, rfl, hnr⟩
  conv => whnf
  have hl2 : d.fs.length ≤ 2 := by rcases h.shape with h | ⟨f, n, h⟩ | ⟨f, n, f', n', hne, h⟩ <;> rw [h] <;> simp
  refine COK.loop (α := Nat × List FE) (fun x => [(0, .own 0 0), (1, .val (.int .i64 keep)), (15, .val (.slice A (d.fs.map FE.k).length c)), (16, .val (.int .i64 (d.fs.map FE.k).length)), (17, .val (.int .i64 x.1))]) (fun x => [dBox db mb d, mBox mb { d with fs := x.2 }]) (fun x g => x.1 ≤ d.fs.length ∧ CrI g keep x.1 d.fs x.2) (fun x => d.fs.length - x.1) (0, d.fs) [0, 1] (Sub.of (by decide) rfl ⟨rfl, rfl, rfl, rfl, rfl, trivial⟩)
    ⟨Nat.zero_le _, rfl, fun j e e' h1 h2 => by rw [if_neg (Nat.not_lt_zero _)]; exact Option.some.inj (h2.symm.trans h1)⟩ ?_
  rintro ⟨i, fs'⟩ g3 hg3 ⟨hi, hC⟩
  simp only at hi hC
  have hlen : fs'.length = d.fs.length := by have := congrArg List.length hC.ks; simpa using this
  refine vcC_ok _ _ _ _ _ ?_
  by_cases hlt : i < d.fs.length
  · obtain ⟨e, he⟩ : ∃ e, d.fs[i]? = some e := ⟨_, List.getElem?_eq_getElem hlt⟩
    obtain ⟨e', he'⟩ : ∃ e', fs'[i]? = some e' := ⟨_, List.getElem?_eq_getElem (by omega)⟩
    have hee : e' = e := by have := hC.at_ i e e' he he'; rwa [if_neg (Nat.lt_irrefl _)] at this
    subst hee
    obtain ⟨a, rfl, hr⟩ := (hnr.mono hg3).at_ encS_len (i := i) (x := e'.k) (by rw [List.getElem?_map, he]; rfl)
    conv => whnf
    refine ⟨fun _ => ?_, fun h1 => absurd h1 (by simp [hlt])⟩
    conv => whnf
    refine ⟨⟨by omega, by simp; omega⟩, ?_⟩
    conv => whnf
    refine OOK.yn (YN.load rfl rfl rfl (v := .string e'.k) (by have := hr 0 _ rfl; rw [addN_add, Nat.add_zero] at this; exact this) ?_)
    conv => whnf
    have hk' : Keys fs' := by unfold Keys; rw [hC.ks]; exact h.shape.keys
    have hmem : e' ∈ d.fs := List.mem_of_getElem? he
    obtain ⟨r, hfr⟩ : ∃ r, findE e'.k (fs'.map FE.ent) 0 = r := ⟨_, rfl⟩
    have hget := find_get e'.k fs' 0
    rw [hfr, get_at hk' he'] at hget
    obtain ⟨q, rfl, hq⟩ : ∃ q, r = some q ∧ q.2 = e'.f.val := by
      cases r with
      | none => cases hget
      | some q => exact ⟨q, rfl, Option.some.inj hget⟩
    obtain ⟨q1, q2⟩ := q
    simp only at hq
    subst hq
    have hs1 := h.safe e' hmem
    have hs2 := h.len e' hmem
    have hs3 := h.cap e' hmem
    refine OOK.lookup 1 _ rfl rfl rfl rfl rfl rfl (strKeys fs') zero_file hfr ?_
    conv => whnf
    intro fb
    conv => whnf
    obtain ⟨n, hn⟩ : ∃ n, n = kept keep e'.f := ⟨_, rfl⟩
    have hnl : n ≤ e'.f.l.length := by rw [hn]; unfold kept; omega
    have hkv : IntKind.i64.wrap ((e'.f.safe : Int) + minI (keep : Int) (IntKind.i64.wrap ((e'.f.l.length : Int) - (e'.f.safe : Int)))) = (n : Int) := by
      rw [i64_in (x := (e'.f.l.length : Int) - (e'.f.safe : Int)) (by omega) (by omega)]
      have : minI (keep : Int) ((e'.f.l.length : Int) - (e'.f.safe : Int)) = ((min keep (e'.f.l.length - e'.f.safe) : Nat) : Int) := by
        unfold minI
        split <;> omega
      rw [this, i64_in (by omega) (by omega), hn]
      unfold kept
      omega
    rw [hkv]
    have htl : (e'.f.l.take n).length = n := by rw [List.length_take]; omega
    have hrow9 : Row g3 encB (if e'.f.c = 0 then e'.f.A else Option.map (addN · (0 * 1)) e'.f.A) (e'.f.l.take n) := by
      intro hne
      have hpos := List.length_pos_iff.2 hne
      have hne2 : e'.f.l ≠ [] := fun e => by rw [e] at hne; simp at hne
      rw [if_neg (by omega)]
      have h9 := (h.rows e' hmem).mono ((hg1.trans hg2).trans hg3)
      obtain ⟨a', ha', _⟩ := h9 hne2
      rw [ha'] at h9 ⊢
      exact row_sub h9 0 n hne
    refine COK.draw [0, 2] (by kernel_rfl) (by kernel_rfl) ?_
    conv => whnf
    refine ⟨⟨by omega, by omega⟩, ?_⟩
    conv => whnf
    refine OOK.call [] rfl rfl rfl (by kernel_rfl) (args := [.slice (if e'.f.c = 0 then e'.f.A else Option.map (addN · (0 * 1)) e'.f.A) (e'.f.l.take n).length e'.f.c]) (by rw [htl]; rfl) (f_cloneR g3 _ _ (e'.f.l.take n) hrow9 (by omega)) (by decide) rfl ?_
    rintro v_ g4 m_ hg4 ⟨rfl, A', c', rfl, hc', hr'⟩
    conv => whnf
    refine ⟨⟨rfl, rfl, rfl, trivial⟩, ?_⟩
    conv => whnf
    refine OOK.mapUpdate (v := (⟨A', c', e'.f.l.take n, n⟩ : Fl).val) 1 rfl rfl rfl rfl rfl rfl rfl (strKeys fs') (put_ent e'.k _ d.clock fs') (clock' := d.clock) (by rw [find_some, get_at hk' he']; rfl) ?_
    conv => whnf
    refine ⟨⟨rfl, rfl, rfl, trivial⟩, ?_⟩
    conv => whnf
    have hput := put_at ⟨A', c', e'.f.l.take n, n⟩ d.clock hk' he'
    refine ⟨(i + 1, putF e'.k ⟨A', c', e'.f.l.take n, n⟩ d.clock fs'), [0, 1], Sub.of (by decide) rfl ⟨rfl, rfl, rfl, rfl, int_eq (i64_in ?_ ?_), trivial⟩, ⟨hlt, ?_, ?_⟩, by show d.fs.length - (i + 1) < d.fs.length - i; omega⟩
    · show (-9223372036854775808 : Int) ≤ (i : Int) + 1; omega
    · show (i : Int) + 1 ≤ 9223372036854775807; omega
    · show (putF e'.k _ d.clock fs').map FE.k = _
      rw [hput, List.map_set, ← hC.ks]
      apply List.ext_getElem?
      intro j
      by_cases e : i = j
      · subst e
        rw [List.getElem?_set_self (by simp; omega), List.getElem?_map, he']; rfl
      · rw [List.getElem?_set_ne e]
    · intro j x y hx hy
      rw [hput] at hy
      by_cases e : i = j
      · subst e
        rw [List.getElem?_set_self (by omega)] at hy
        obtain rfl := Option.some.inj hy
        obtain rfl := Option.some.inj (he.symm.trans hx)
        rw [if_pos (Nat.lt_succ_self _)]
        exact ⟨rfl, rfl, by rw [← hn], hn, hc', hr'⟩
      · rw [List.getElem?_set_ne e] at hy
        have := (hC.mono hg4).at_ j x y hx hy
        by_cases hj : j < i
        · rw [if_pos hj] at this; rw [if_pos (by omega)]; exact this
        · rw [if_neg hj] at this; rw [if_neg (by omega)]; exact this
  · conv => whnf
    refine ⟨fun h1 => absurd h1 (by simp [hlt]), fun _ => ?_⟩
    conv => whnf
    have hid : i = d.fs.length := by omega
    exact .mk ⟨_, [0, 1], _, rfl, by decide, rfl, ⟨rfl, rfl, trivial⟩, rfl, fs', by rw [hlen, ← hid]; exact hC, rfl⟩
end Go.Proofs.Ytkkefknmahnjnaa
