/- WholeStores: plain laws of a crash and of the count of changes. -/
import Derived.Test.YtkkefknmahnjnaaSSto
set_option linter.unusedVariables false
set_option linter.unusedSimpArgs false
set_option maxRecDepth 100000
namespace Go.Proofs.Ytkkefknmahnjnaa
open Go Go.SX

theorem framesL_append (a b : List (List UInt8)) : framesL (a ++ b) = framesL a ++ framesL b := by unfold framesL; rw [List.flatMap_append]
theorem framesL_one (l : List UInt8) : framesL [l] = frameL l := by unfold framesL; simp
theorem u8_in {x : Int} (h1 : 0 ≤ x) (h2 : x ≤ 255) : IntKind.u8.wrap x = x := by
  rw [IntKind.wrap_u8]
  omega
theorem short_nil : Short [] := .inl (by show 0 < 8; omega)
theorem short_take (l : List UInt8) (k : Nat) (hl : l.length ≤ 1000) (hk : k < 8 + l.length) : Short ((frameL l).take k) := by
  have hlen : ((frameL l).take k).length = k := by rw [List.length_take, frame_len]; omega
  by_cases h8 : k < 8
  · exact .inl (by rw [hlen]; exact h8)
  · right
    have h4 : ((frameL l).take k).take 4 = [byteOf (l.length : Int) 0, byteOf (l.length : Int) 1, byteOf (l.length : Int) 2, byteOf (l.length : Int) 3] := by
      rw [List.take_take, Nat.min_eq_left (by omega)]
      rfl
    rw [h4, num_bytes _ (by omega) (by omega), hlen]
    omega
theorem take_app {a b : List UInt8} (k : Nat) : (a ++ b).take (a.length + min k ((a ++ b).length - a.length)) = a ++ b.take k := by
  have : min k ((a ++ b).length - a.length) = min k b.length := by rw [List.length_append]; omega
  rw [this, List.take_append, List.take_of_length_le (by omega)]
  congr 1
  rw [show a.length + min k b.length - a.length = min k b.length by omega]
  rcases Nat.le_total k b.length with h | h
  · rw [Nat.min_eq_left h]
  · rw [Nat.min_eq_right h, List.take_of_length_le (Nat.le_refl _), List.take_of_length_le h]
/-- What a crash keeps of the bytes of the records: whole frames, and a part of one. -/
theorem crash_bytes (hs ps : List Rec) (k : Nat) (hp : ps.length ≤ 1) (hpl : ∀ p ∈ ps, p.l.length ≤ 1000) :
    ∃ tail, Short tail ∧ framesL (hs.map Rec.l) ++ (framesL (ps.map Rec.l)).take k = framesL ((hs ++ keptP k ps).map Rec.l) ++ tail := by
  rcases ps with _ | ⟨p, _ | ⟨q, r⟩⟩
  · refine ⟨[], short_nil, ?_⟩
    simp [keptP, framesL]
  · have hp1 := hpl p List.mem_cons_self
    rw [show ([p].map Rec.l) = [p.l] from rfl, framesL_one, List.map_append, framesL_append]
    by_cases h : 8 + p.l.length ≤ k
    · refine ⟨[], short_nil, ?_⟩
      have : keptP k [p] = [p] := by simp [keptP, h]
      rw [this, List.append_nil, show ([p].map Rec.l) = [p.l] from rfl, framesL_one, List.take_of_length_le (by rw [frame_len]; exact h)]
    · refine ⟨_, short_take p.l k hp1 (by omega), ?_⟩
      have : keptP k [p] = [] := by simp [keptP, h]
      rw [this]
      simp [framesL]
  · simp at hp
/-- The disk behind a crash. -/
theorem Cr.flok {g : GH} {k : Nat} {e e' : FE} (h : Cr g k e e') (ho : e.f.l.length ≤ 20000) (hs : e.f.safe ≤ e.f.l.length) : e'.f.ok g ∧ e'.f.l = e.f.l.take (kept k e.f) := by
  refine ⟨⟨h.row, h.cap, ?_, ?_⟩, h.l⟩
  · rw [h.l, List.length_take]; omega
  · rw [h.safe, h.l, List.length_take]
    unfold kept
    omega
theorem crash_log {g g' : GH} {d : Dk} {l : List UInt8} {s k : Nat} {fs' : List FE} (h : LogF g d l s) (hc : CrI g' k fs'.length d.fs fs') : ∃ s', LogF g' ⟨fs', d.clock, false, false, 0⟩ (l.take (s + min k (l.length - s))) s' := by
  obtain ⟨f, n, h1, h2, h3, h4⟩ := h
  obtain ⟨hfo, hn⟩ := h4.at_ (e := ⟨kLog, f, n⟩) (by rw [h1]; exact List.mem_cons_self)
  have hk := hc.ks
  have ha := hc.at_
  rw [h1] at hk ha
  have hlen := congrArg List.length hk
  simp only [List.length_map, List.length_cons, List.length_nil] at hlen
  obtain ⟨e', rfl⟩ := List.length_eq_one_iff.1 hlen
  have hc0 := ha 0 _ e' rfl rfl
  rw [if_pos (by simp)] at hc0
  obtain ⟨q1, q2⟩ := hc0.flok hfo.len hfo.safe
  have hk1 := hc0.k
  have hn1 := hc0.n
  simp only at hk1 hn1 q2 hn
  have e3 : (⟨[e'], d.clock, false, false, 0⟩ : Dk).fs = [⟨kLog, e'.f, n⟩] := by rw [← hk1, ← hn1]
  refine ⟨e'.f.safe, e'.f, n, e3, ?_, rfl, fok1 e3 hn q1⟩
  rw [q2, ← h2, ← h3]
  rfl
theorem crash_logN {g g' : GH} {d : Dk} {l l2 : List UInt8} {s s2 k : Nat} {fs' : List FE} (h : LogN g d l s l2 s2) (hc : CrI g' k fs'.length d.fs fs') : ∃ s' l3 s3, LogN g' ⟨fs', d.clock, false, false, 0⟩ (l.take (s + min k (l.length - s))) s' l3 s3 := by
  obtain ⟨f, n, f2, n2, hne, h1, h2, h3, h5, h6, h4⟩ := h
  obtain ⟨hfo, hn⟩ := h4.at_ (e := ⟨kLog, f, n⟩) (by rw [h1]; exact List.mem_cons_self)
  obtain ⟨hfo2, hn2⟩ := h4.at_ (e := ⟨kNew, f2, n2⟩) (by rw [h1]; exact List.mem_cons_of_mem _ List.mem_cons_self)
  have hk := hc.ks
  have ha := hc.at_
  rw [h1] at hk ha
  have hlen := congrArg List.length hk
  simp only [List.length_map, List.length_cons, List.length_nil] at hlen
  obtain ⟨e', e2, rfl⟩ : ∃ x y, fs' = [x, y] := by
    match fs', hlen with
    | [x, y], _ => exact ⟨x, y, rfl⟩
  have hc0 := ha 0 _ e' rfl rfl
  have hc1 := ha 1 _ e2 rfl rfl
  rw [if_pos (by simp)] at hc0 hc1
  obtain ⟨q1, q2⟩ := hc0.flok hfo.len hfo.safe
  obtain ⟨r1, r2⟩ := hc1.flok hfo2.len hfo2.safe
  have hk1 := hc0.k
  have hn1 := hc0.n
  have hk2 := hc1.k
  have hn3 := hc1.n
  simp only at hk1 hn1 q2 hn hk2 hn3 hn2
  have e3 : (⟨[e', e2], d.clock, false, false, 0⟩ : Dk).fs = [⟨kLog, e'.f, n⟩, ⟨kNew, e2.f, n2⟩] := by rw [← hk1, ← hn1, ← hk2, ← hn3]
  refine ⟨e'.f.safe, e2.f.l, e2.f.safe, e'.f, n, e2.f, n2, hne, e3, ?_, rfl, rfl, rfl, fok2 e3 hne hn hn2 q1 r1⟩
  rw [q2, ← h2, ← h3]
  rfl
/-- What the disk holds beside the list. -/
def OnDisk (g : GH) (d : Dk) (hs ps : List Rec) : Prop :=
  LogF g d (framesL (hs.map Rec.l) ++ framesL (ps.map Rec.l)) (framesL (hs.map Rec.l)).length ∨ ∃ l' s', LogN g d (framesL (hs.map Rec.l) ++ framesL (ps.map Rec.l)) (framesL (hs.map Rec.l)).length l' s'
theorem OnDisk.mono {g g' : GH} {d hs ps} (h : OnDisk g d hs ps) (k : g.le g') : OnDisk g' d hs ps := by
  rcases h with h | ⟨l', s', h⟩
  · exact .inl (h.mono k)
  · exact .inr ⟨l', s', h.mono k⟩
theorem OnDisk.same {g : GH} {d d2 : Dk} {hs ps} (h : OnDisk g d hs ps) (h1 : d2.fs = d.fs) (h2 : d2.clock = d.clock) : OnDisk g d2 hs ps := by
  rcases h with h | ⟨l', s', h⟩
  · exact .inl (h.same h1 h2)
  · exact .inr ⟨l', s', h.same h1 h2⟩
theorem OnDisk.fok {g d hs ps} (h : OnDisk g d hs ps) : Fok g d := by
  rcases h with h | ⟨l', s', h⟩
  · exact h.fok
  · exact h.fok
theorem OnDisk.crash {g g' : GH} {d : Dk} {hs ps : List Rec} {k : Nat} {fs' : List FE} (h : OnDisk g d hs ps) (hp : ps.length ≤ 1) (hpl : ∀ p ∈ ps, p.l.length ≤ 1000) (hc : CrI g' k fs'.length d.fs fs') :
    ∃ tail, Short tail ∧ Found g' ⟨fs', d.clock, false, false, 0⟩ ((hs ++ keptP k ps).map Rec.l) tail := by
  obtain ⟨tail, ht, he⟩ := crash_bytes hs ps k hp hpl
  refine ⟨tail, ht, ?_⟩
  rcases h with h | ⟨l', s', h⟩
  · obtain ⟨s', h'⟩ := crash_log h hc
    rw [take_app, he] at h'
    exact .inr (.inl ⟨s', h'⟩)
  · obtain ⟨s', l3, s3, h'⟩ := crash_logN h hc
    rw [take_app, he] at h'
    exact .inr (.inr ⟨s', l3, s3, h'⟩)
theorem chg_t (f : Int) : chg f true = (false, f, true) := by unfold chg; rw [if_pos (.inl rfl)]
theorem run_t (f : Int) : run 3 f true = (false, f, true) := by
  show (if (chg f true).1 = true then _ else chg f true) = _
  rw [chg_t]; rfl
theorem chg_f {f : Int} : (chg f false = (false, f, true)) ∨ ((chg f false).1 = true ∧ (chg f false).2.2 = false) := by
  by_cases h : f = 0
  · left; unfold chg; rw [if_pos (.inr h)]
  · right; unfold chg; rw [if_neg (by rintro (h' | h'); cases h'; exact h h')]; exact ⟨rfl, rfl⟩
theorem chg_lo {f : Int} {b : Bool} (h : -1 ≤ f) : -1 ≤ (chg f b).2.1 := by
  unfold chg
  split
  · exact h
  · simp only
    split <;> omega
theorem run_lo : ∀ (n : Nat) {f : Int} {b : Bool}, -1 ≤ f → -1 ≤ (run n f b).2.1
  | 0, f, b, h => h
  | n + 1, f, b, h => by
    unfold run
    split
    · exact run_lo n (chg_lo h)
    · exact chg_lo h
theorem none_app (l : List UInt8) : l ++ framesL (([] : List Rec).map Rec.l) = l := List.append_nil l
theorem Sim.rng {f : Int} {b : Bool} {d : Dk} (h : Sim f b d) (h0 : -1000 ≤ f) : f ≤ 1000 := by
  rcases h.fz with ⟨_, h1⟩ | ⟨_, h1, _⟩
  · omega
  · rw [h1]; exact h.z.hi
theorem lens_bound : ∀ (ls : List (List UInt8)), (∀ l ∈ ls, l.length ≤ 11) → lens ls ≤ ls.length * 19
  | [], _ => Nat.zero_le _
  | l :: r, h => by
    have h1 := lens_bound r fun x hx => h x (List.mem_cons_of_mem _ hx)
    have h2 := h l List.mem_cons_self
    unfold lens at *
    rw [List.map_cons, List.sum_cons, List.length_cons]
    omega
theorem keptP_len (k : Nat) (ps : List Rec) : (keptP k ps).length ≤ ps.length := List.length_filter_le _ _
theorem keptP_mem {k : Nat} {ps : List Rec} {p : Rec} (h : p ∈ keptP k ps) : p ∈ ps := (List.mem_filter.1 h).1
end Go.Proofs.Ytkkefknmahnjnaa
namespace Go.SX
open Go
/-- A row of one's own stays for good. -/
theorem COK.rowF {P : Program} {n : Nat} {c : Code} {e : Env} {m : Mem} {g : GH} {K : KK} {α : Type} {el size : Nat} {enc : α → List Value} {l : List α} {s : Slot} {A : Option Addr} {cc : Nat} (i : Nat) (hO : OwnAt el size enc l s A cc) (hi : m[i]? = some s)
    (h : ∀ g', g.le g' → Row g' enc A l → COK P n c e (m.set i ⟨s.b, .dead⟩) g' K) : COK P n c e m g K := by
  cases hO with
  | nil b h0 =>
    have : m.set i ⟨b, .dead⟩ = m := by
      apply List.ext_getElem?
      intro k
      by_cases hk : i = k
      · subst hk
        rw [List.getElem?_set_self (List.getElem?_eq_some_iff.1 hi).1, hi]
      · rw [List.getElem?_set_ne hk]
    have h1 := h g (GH.le.refl _) (fun hne => absurd h0 hne)
    rw [this] at h1
    exact h1
  | own b c rest h1 h2 => exact COK.freeze i hi rfl fun g' hg hb => h g' hg (row_of (rest := rest) hb)
end Go.SX
