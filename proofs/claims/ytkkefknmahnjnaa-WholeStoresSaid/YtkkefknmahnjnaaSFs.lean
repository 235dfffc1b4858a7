/- WholeStores: what the disk holds, in plain words. -/
import Derived.Test.YtkkefknmahnjnaaSJrn
set_option linter.unusedVariables false
set_option linter.unusedSimpArgs false
set_option maxRecDepth 100000
namespace Go.Proofs.Ytkkefknmahnjnaa
open Go Go.SX

/-- One file: the journal's. -/
def LogF (g : GH) (d : Dk) (l : List UInt8) (s : Nat) : Prop := ∃ f n, d.fs = [⟨kLog, f, n⟩] ∧ f.l = l ∧ f.safe = s ∧ Fok g d
/-- .. and the one that is to replace it. -/
def LogN (g : GH) (d : Dk) (l : List UInt8) (s : Nat) (l' : List UInt8) (s' : Nat) : Prop := ∃ f n f' n', n ≠ n' ∧ d.fs = [⟨kLog, f, n⟩, ⟨kNew, f', n'⟩] ∧ f.l = l ∧ f.safe = s ∧ f'.l = l' ∧ f'.safe = s' ∧ Fok g d
theorem LogF.mono {g g' : GH} {d : Dk} {l s} (h : LogF g d l s) (k : g.le g') : LogF g' d l s := by
  obtain ⟨f, n, h1, h2, h3, h4⟩ := h; exact ⟨f, n, h1, h2, h3, h4.mono k⟩
theorem LogN.mono {g g' : GH} {d : Dk} {l s l' s'} (h : LogN g d l s l' s') (k : g.le g') : LogN g' d l s l' s' := by
  obtain ⟨f, n, f', n', h0, h1, h2, h3, h4, h5, h6⟩ := h; exact ⟨f, n, f', n', h0, h1, h2, h3, h4, h5, h6.mono k⟩
theorem LogF.fok {g d l s} (h : LogF g d l s) : Fok g d := h.choose_spec.choose_spec.2.2.2
theorem LogN.fok {g d l s l' s'} (h : LogN g d l s l' s') : Fok g d := by obtain ⟨f, n, f', n', h0, h1, h2, h3, h4, h5, h6⟩ := h; exact h6
theorem kne : (kNew == kLog) = false := by decide
theorem kne' : (kLog == kNew) = false := by decide
theorem keq : (kLog == kLog) = true := by decide
theorem keq' : (kNew == kNew) = true := by decide
theorem Fok.same {g : GH} {d d2 : Dk} (h : Fok g d) (h1 : d2.fs = d.fs) (h2 : d2.clock = d.clock) : Fok g d2 := ⟨by rw [h1]; exact h.shape, by rw [h1, h2]; exact h.born, by rw [h1]; exact h.rows, by rw [h1]; exact h.cap, by rw [h1]; exact h.len, by rw [h1]; exact h.safe⟩
theorem LogF.same {g : GH} {d d2 : Dk} {l s} (h : LogF g d l s) (h1 : d2.fs = d.fs) (h2 : d2.clock = d.clock) : LogF g d2 l s := by
  obtain ⟨f, n, e1, e2, e3, e4⟩ := h; exact ⟨f, n, h1.trans e1, e2, e3, e4.same h1 h2⟩
theorem LogN.same {g : GH} {d d2 : Dk} {l s l' s'} (h : LogN g d l s l' s') (h1 : d2.fs = d.fs) (h2 : d2.clock = d.clock) : LogN g d2 l s l' s' := by
  obtain ⟨f, n, f', n', e0, e1, e2, e3, e4, e5, e6⟩ := h; exact ⟨f, n, f', n', e0, h1.trans e1, e2, e3, e4, e5, e6.same h1 h2⟩
/-- A file well laid. -/
structure Fl.ok (g : GH) (f : Fl) : Prop where
  row : Row g encB f.A f.l
  cap : f.l.length ≤ f.c
  len : f.l.length ≤ 20000
  safe : f.safe ≤ f.l.length
theorem Fl.ok.mono {g g' : GH} {f : Fl} (h : f.ok g) (k : g.le g') : f.ok g' := ⟨h.row.mono k, h.cap, h.len, h.safe⟩
theorem fok1 {g : GH} {d : Dk} {f : Fl} {n : Nat} (h : d.fs = [⟨kLog, f, n⟩]) (hn : n < d.clock) (hf : f.ok g) : Fok g d := by
  have hm : ∀ e ∈ d.fs, e = ⟨kLog, f, n⟩ := fun e he => by rw [h] at he; exact List.mem_singleton.1 he
  exact ⟨.inr (.inl ⟨f, n, h⟩), fun e he => by rw [hm e he]; exact hn, fun e he => by rw [hm e he]; exact hf.row, fun e he => by rw [hm e he]; exact hf.cap, fun e he => by rw [hm e he]; exact hf.len, fun e he => by rw [hm e he]; exact hf.safe⟩
theorem fok2 {g : GH} {d : Dk} {f f' : Fl} {n n' : Nat} (h : d.fs = [⟨kLog, f, n⟩, ⟨kNew, f', n'⟩]) (hne : n ≠ n') (hn : n < d.clock) (hn' : n' < d.clock) (hf : f.ok g) (hf' : f'.ok g) : Fok g d := by
  have hm : ∀ e ∈ d.fs, e = ⟨kLog, f, n⟩ ∨ e = ⟨kNew, f', n'⟩ := fun e he => by
    rw [h] at he
    rcases List.mem_cons.1 he with h | h
    · exact .inl h
    · exact .inr (List.mem_singleton.1 h)
  refine ⟨.inr (.inr ⟨f, n, f', n', hne, h⟩), fun e he => ?_, fun e he => ?_, fun e he => ?_, fun e he => ?_, fun e he => ?_⟩
  all_goals rcases hm e he with rfl | rfl
  · exact hn
  · exact hn'
  · exact hf.row
  · exact hf'.row
  · exact hf.cap
  · exact hf'.cap
  · exact hf.len
  · exact hf'.len
  · exact hf.safe
  · exact hf'.safe
theorem Fok.at_ {g : GH} {d : Dk} (h : Fok g d) {e : FE} (he : e ∈ d.fs) : e.f.ok g ∧ e.n < d.clock := ⟨⟨h.rows e he, h.cap e he, h.len e he, h.safe e he⟩, h.born e he⟩
theorem app_log {g g' : GH} {d d2 : Dk} {l b : List UInt8} {s : Nat} (h : LogF g d l s) (hg : g.le g') (hp : postApp kLog b d d2 g') (hl : (l ++ b).length ≤ 20000) : LogF g' d2 (l ++ b) s := by
  obtain ⟨f, n, h1, h2, h3, h4⟩ := h
  obtain ⟨hf, hn⟩ := h4.at_ (e := ⟨kLog, f, n⟩) (by rw [h1]; exact List.mem_cons_self)
  have ho : oldF kLog d = f := by unfold oldF; rw [h1]; simp [getF, keq]
  have hi : (getF kLog d.fs).isSome = true := by rw [h1]; simp [getF, keq]
  obtain ⟨A', c', k1, k2, k3, k4⟩ := hp
  rw [ho, h2] at k1 k2 k3 k4
  have e3 : d2.fs = [⟨kLog, ⟨A', c', l ++ b, f.safe⟩, n⟩] := by rw [k3]; simp only [Dk.put]; rw [h1]; simp [putF, keq]
  have e4 : d2.clock = d.clock := by rw [k4]; simp only [Dk.put]; rw [hi]; rfl
  have hs := hf.safe
  simp only at hs hn
  rw [h2] at hs
  exact ⟨_, n, e3, rfl, h3, fok1 e3 (by rw [e4]; exact hn) ⟨k1, k2, hl, by show f.safe ≤ _; rw [List.length_append]; omega⟩⟩
theorem sync_log {g : GH} {d d2 : Dk} {l : List UInt8} {s : Nat} {f : Fl} (h : LogF g d l s) (hf : getF kLog d.fs = some f) (hp : postSync kLog f d d2) : LogF g d2 l l.length := by
  obtain ⟨f1, n, h1, h2, h3, h4⟩ := h
  obtain ⟨hfo, hn⟩ := h4.at_ (e := ⟨kLog, f1, n⟩) (by rw [h1]; exact List.mem_cons_self)
  have he : f1 = f := by rw [h1] at hf; simpa [getF, keq] using hf
  subst he
  have hi : (getF kLog d.fs).isSome = true := by rw [hf]; rfl
  obtain ⟨k3, k4⟩ := hp
  have e3 : d2.fs = [⟨kLog, ⟨f1.A, f1.c, f1.l, f1.l.length⟩, n⟩] := by rw [k3]; simp only [Dk.put]; rw [h1]; simp [putF, keq]
  have e4 : d2.clock = d.clock := by rw [k4]; simp only [Dk.put]; rw [hi]; rfl
  exact ⟨_, n, e3, h2, by rw [← h2], fok1 e3 (by rw [e4]; exact hn) ⟨hfo.row, hfo.cap, hfo.len, Nat.le_refl _⟩⟩
theorem app_new {g g' : GH} {d d2 : Dk} {l b : List UInt8} {s : Nat} (h : LogF g d l s) (hg : g.le g') (hp : postApp kNew b d d2 g') (hl : b.length ≤ 20000) : LogN g' d2 l s b 0 := by
  obtain ⟨f, n, h1, h2, h3, h4⟩ := h
  obtain ⟨hf, hn⟩ := h4.at_ (e := ⟨kLog, f, n⟩) (by rw [h1]; exact List.mem_cons_self)
  have ho : oldF kNew d = Fl.none := by unfold oldF; rw [h1]; simp [getF, kne]
  have hi : (getF kNew d.fs).isSome = false := by rw [h1]; simp [getF, kne]
  obtain ⟨A', c', k1, k2, k3, k4⟩ := hp
  rw [ho] at k1 k2 k3 k4
  have e0 : Fl.none.l ++ b = b := rfl
  rw [e0] at k1 k2 k3 k4
  have e3 : d2.fs = [⟨kLog, f, n⟩, ⟨kNew, ⟨A', c', b, 0⟩, d.clock⟩] := by rw [k3]; simp only [Dk.put]; rw [h1]; simp [putF, kne]; rfl
  have e4 : d2.clock = d.clock + 1 := by rw [k4]; simp only [Dk.put]; rw [hi]; rfl
  simp only at hn
  exact ⟨f, n, _, d.clock, by omega, e3, h2, h3, rfl, rfl, fok2 e3 (by omega) (by omega) (by omega) (hf.mono hg) ⟨k1, k2, hl, Nat.zero_le _⟩⟩
theorem sync_new {g : GH} {d d2 : Dk} {l l' : List UInt8} {s s' : Nat} {f : Fl} (h : LogN g d l s l' s') (hf : getF kNew d.fs = some f) (hp : postSync kNew f d d2) : LogN g d2 l s l' l'.length := by
  obtain ⟨f1, n, f2, n2, hne, h1, h2, h3, h4, h5, h6⟩ := h
  obtain ⟨hfo, hn⟩ := h6.at_ (e := ⟨kLog, f1, n⟩) (by rw [h1]; exact List.mem_cons_self)
  obtain ⟨hfo2, hn2⟩ := h6.at_ (e := ⟨kNew, f2, n2⟩) (by rw [h1]; exact List.mem_cons_of_mem _ List.mem_cons_self)
  have he : f2 = f := by rw [h1] at hf; simpa [getF, keq', kne] using hf
  subst he
  have hi : (getF kNew d.fs).isSome = true := by rw [hf]; rfl
  obtain ⟨k3, k4⟩ := hp
  have e3 : d2.fs = [⟨kLog, f1, n⟩, ⟨kNew, ⟨f2.A, f2.c, f2.l, f2.l.length⟩, n2⟩] := by rw [k3]; simp only [Dk.put]; rw [h1]; simp [putF, keq', kne]
  have e4 : d2.clock = d.clock := by rw [k4]; simp only [Dk.put]; rw [hi]; rfl
  exact ⟨f1, n, _, n2, hne, e3, h2, h3, h4, by rw [← h4], fok2 e3 hne (by rw [e4]; exact hn) (by rw [e4]; exact hn2) hfo ⟨hfo2.row, hfo2.cap, hfo2.len, Nat.le_refl _⟩⟩
theorem ren_new {g : GH} {d d2 : Dk} {l l' : List UInt8} {s s' : Nat} {f : Fl} (h : LogN g d l s l' s') (hf : getF kNew d.fs = some f) (k3 : d2.fs = (({ d with fs := delF kNew d.fs } : Dk).put kLog f).fs) (k4 : d2.clock = (({ d with fs := delF kNew d.fs } : Dk).put kLog f).clock) : LogF g d2 l' s' := by
  obtain ⟨f1, n, f2, n2, hne, h1, h2, h3, h4, h5, h6⟩ := h
  obtain ⟨hfo, hn⟩ := h6.at_ (e := ⟨kLog, f1, n⟩) (by rw [h1]; exact List.mem_cons_self)
  obtain ⟨hfo2, hn2⟩ := h6.at_ (e := ⟨kNew, f2, n2⟩) (by rw [h1]; exact List.mem_cons_of_mem _ List.mem_cons_self)
  have he : f2 = f := by rw [h1] at hf; simpa [getF, keq', kne] using hf
  subst he
  have e3 : d2.fs = [⟨kLog, f2, n⟩] := by rw [k3]; simp only [Dk.put]; rw [h1]; simp [putF, delF, keq, keq', kne]
  have e4 : d2.clock = d.clock := by rw [k4]; simp only [Dk.put]; rw [h1]; simp [getF, delF, keq, keq', kne]
  exact ⟨_, n, e3, h4, h5, fok1 e3 (by rw [e4]; exact hn) hfo2⟩
theorem rem_new {g : GH} {d d2 : Dk} {l l' : List UInt8} {s s' : Nat} (h : LogN g d l s l' s') (k3 : d2.fs = delF kNew d.fs) (k4 : d2.clock = d.clock) : LogF g d2 l s := by
  obtain ⟨f1, n, f2, n2, hne, h1, h2, h3, h4, h5, h6⟩ := h
  obtain ⟨hfo, hn⟩ := h6.at_ (e := ⟨kLog, f1, n⟩) (by rw [h1]; exact List.mem_cons_self)
  have e3 : d2.fs = [⟨kLog, f1, n⟩] := by rw [k3, h1]; simp [delF, keq', kne]
  exact ⟨_, n, e3, h2, h3, fok1 e3 (by rw [k4]; exact hn) hfo⟩
theorem app_first {g g' : GH} {d d2 : Dk} (h : d.fs = []) (hp : postApp kLog [] d d2 g') : LogF g' d2 [] 0 := by
  have ho : oldF kLog d = Fl.none := by unfold oldF; rw [h]; rfl
  obtain ⟨A', c', k1, k2, k3, k4⟩ := hp
  rw [ho] at k1 k2 k3 k4
  have e3 : d2.fs = [⟨kLog, ⟨A', c', [], 0⟩, d.clock⟩] := by rw [k3]; simp only [Dk.put]; rw [h]; rfl
  have e4 : d2.clock = d.clock + 1 := by rw [k4]; simp only [Dk.put]; rw [h]; rfl
  exact ⟨_, _, e3, rfl, rfl, fok1 e3 (by omega) ⟨k1, k2, by show 0 ≤ 20000; omega, Nat.le_refl _⟩⟩
theorem LogF.get {g d l s} (h : LogF g d l s) : ∃ f, getF kLog d.fs = some f ∧ f.l = l := by
  obtain ⟨f, n, h1, h2, _⟩ := h
  exact ⟨f, by rw [h1]; simp [getF, keq], h2⟩
theorem LogN.get {g d l s l' s'} (h : LogN g d l s l' s') : ∃ f, getF kNew d.fs = some f ∧ f.l = l' := by
  obtain ⟨f1, n, f2, n2, hne, h1, h2, h3, h4, _⟩ := h
  exact ⟨f2, by rw [h1]; simp [getF, keq', kne], h4⟩
theorem LogN.get2 {g d l s l' s'} (h : LogN g d l s l' s') : ∃ f, getF kLog d.fs = some f ∧ f.l = l := by
  obtain ⟨f1, n, f2, n2, hne, h1, h2, h3, h4, _⟩ := h
  exact ⟨f1, by rw [h1]; simp [getF, keq], h2⟩
end Go.Proofs.Ytkkefknmahnjnaa
