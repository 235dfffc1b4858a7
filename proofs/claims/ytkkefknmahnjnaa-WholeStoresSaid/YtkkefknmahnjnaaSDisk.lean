/- WholeStores: what a disk tells: names, bytes used, copies. -/
import Derived.Test.YtkkefknmahnjnaaSNames
set_option linter.unusedVariables false
set_option linter.unusedSimpArgs false
set_option maxRecDepth 100000
namespace Go.Proofs.Ytkkefknmahnjnaa
open Go Go.SX

theorem f_keys (g : GH) (mb : Nat) : Tri Try.prog 48 [.map (some mb)] g [] fun v g' m' => ∃ kb, v = .func (.func 65) #[] #[.pointer (some ⟨kb, 0, none⟩)] ∧ m' = [⟨kb, .cells [.map (some mb)] 47 (0, 0)⟩] := by
  refine Tri.vc [.val (.map (some mb))] Try.func48 rfl Try.ntmps48 rfl rfl ?_
  conv => whnf
  intro kb
  conv => whnf
  exact .mk ⟨_, [0], _, rfl, by decide, rfl, trivial, kb, rfl, rfl⟩
/-- A disk's files: well laid. -/
structure Fok (g : GH) (d : Dk) : Prop where
  shape : Shape d.fs
  born : ∀ e ∈ d.fs, e.n < d.clock
  rows : ∀ e ∈ d.fs, Row g encB e.f.A e.f.l
  cap : ∀ e ∈ d.fs, e.f.l.length ≤ e.f.c
  len : ∀ e ∈ d.fs, e.f.l.length ≤ 20000
  safe : ∀ e ∈ d.fs, e.f.safe ≤ e.f.l.length
theorem Fok.mono {g g' : GH} {d : Dk} (h : Fok g d) (k : g.le g') : Fok g' d := ⟨h.shape, h.born, fun e he => (h.rows e he).mono k, h.cap, h.len, h.safe⟩
theorem f_names (g : GH) (db mb : Nat) (d : Dk) (h : Fok g d) :
    Tri Try.prog 21 [.pointer (some ⟨db, 0, none⟩)] g [dBox db mb d, mBox mb d] fun v g' m' => m' = [dBox db mb d, mBox mb d] ∧ ∃ A c, v = .slice A (d.fs.map FE.k).length c ∧ Row g' encS A (d.fs.map FE.k) := by
  refine Tri.vc [.own 0 0] Try.func21 rfl Try.ntmps21 rfl rfl ?_
  conv => whnf
  refine OOK.call [0] rfl rfl rfl (by kernel_rfl) rfl (f_ok g db mb d) (by decide) rfl ?_
  rintro v_ g1 m_ hg1 ⟨rfl, rfl⟩
  conv => whnf
  refine ⟨(by intro q; cases q), fun _ => ?_⟩
  conv => whnf
  refine OOK.call [] rfl rfl rfl (by kernel_rfl) rfl (f_keys g1 mb) (by decide) rfl ?_
  rintro v_ g2 m_ hg2 ⟨kb, rfl, rfl⟩
  conv => whnf
  refine OOK.call [1, 2] rfl rfl rfl (by kernel_rfl) rfl (f_sorted g2 mb kb d h.shape h.born) (by decide) rfl ?_
  rintro v_ g3 m_ hg3 ⟨rfl, A, c, rfl, hr⟩
  conv => whnf
  exact .mk ⟨_, [0, 1], _, rfl, by decide, rfl, ⟨rfl, rfl, trivial⟩, rfl, A, c, rfl, hr⟩

/-- What the entries that have not come yet weigh. -/
def us (w : FE → Nat) (seen : Array Nat) : List FE → Nat
  | [] => 0
  | e :: r => (if e.n ∈ seen.toList then 0 else w e) + us w seen r
theorem us_done (w : FE → Nat) (seen : Array Nat) : ∀ (fs : List FE), (∀ e ∈ fs, e.n ∈ seen.toList) → us w seen fs = 0
  | [], _ => rfl
  | e :: r, h => by
    simp only [us, if_pos (h e List.mem_cons_self), us_done w seen r fun x hx => h x (List.mem_cons_of_mem _ hx)]
theorem us_other (w : FE → Nat) (seen : Array Nat) (n : Nat) : ∀ (fs : List FE), (∀ e ∈ fs, e.n ≠ n) → us w (seen.push n) fs = us w seen fs
  | [], _ => rfl
  | e :: r, h => by
    have h1 : (e.n ∈ (seen.push n).toList) = (e.n ∈ seen.toList) := by
      simp only [Array.toList_push, List.mem_append, List.mem_singleton, h e List.mem_cons_self, or_false]
    simp only [us, h1, us_other w seen n r fun x hx => h x (List.mem_cons_of_mem _ hx)]
theorem us_step (w : FE → Nat) (seen : Array Nat) : ∀ (fs : List FE) (e : FE), (fs.map FE.n).Nodup → e ∈ fs → e.n ∉ seen.toList → us w (seen.push e.n) fs + w e = us w seen fs
  | [], e, _, h, _ => by simp at h
  | x :: r, e, hn, he, hs => by
    rw [List.map_cons, List.nodup_cons] at hn
    rcases List.mem_cons.1 he with rfl | he
    · have h1 : e.n ∈ (seen.push e.n).toList := by simp
      simp only [us, if_pos h1, if_neg hs]
      rw [us_other w seen e.n r fun y hy h => hn.1 (h ▸ List.mem_map_of_mem hy)]
      omega
    · have hne : x.n ≠ e.n := fun h => hn.1 (h ▸ List.mem_map_of_mem he)
      have h1 : (x.n ∈ (seen.push e.n).toList) = (x.n ∈ seen.toList) := by
        simp only [Array.toList_push, List.mem_append, List.mem_singleton, hne, or_false]
      have := us_step w seen r e hn.2 he hs
      simp only [us, h1]
      omega
theorem us_nil (w : FE → Nat) : ∀ (fs : List FE), us w #[] fs = (fs.map w).sum
  | [] => rfl
  | e :: r => by simp [us, us_nil w r]
def lenW (e : FE) : Nat := e.f.l.length
def total (fs : List FE) : Nat := (fs.map lenW).sum
theorem Fok.nodup {g : GH} {d : Dk} (h : Fok g d) : (d.fs.map FE.n).Nodup := by
  rcases h.shape with h | ⟨f, n, h⟩ | ⟨f, n, f', n', hne, h⟩ <;> rw [h] <;> simp
  exact hne
theorem Fok.total_le {g : GH} {d : Dk} (h : Fok g d) : total d.fs ≤ 40000 := by
  have hl := h.len
  rcases h.shape with h | ⟨f, n, h⟩ | ⟨f, n, f', n', hne, h⟩ <;> rw [h] at hl ⊢ <;> simp [total, lenW] at hl ⊢ <;> omega
theorem us_le (w : FE → Nat) (seen : Array Nat) : ∀ (fs : List FE), us w seen fs ≤ (fs.map w).sum
  | [] => Nat.le_refl _
  | e :: r => by
    have := us_le w seen r
    simp only [us, List.map_cons, List.sum_cons]
    split <;> omega
theorem born_ent {d : Dk} (h : ∀ e ∈ d.fs, e.n < d.clock) : ∀ x ∈ d.fs.map FE.ent, x.born < d.clock := fun x hx => by
  obtain ⟨e, he, rfl⟩ := List.mem_map.1 hx
  exact h e he
theorem nodup_ent {fs : List FE} (h : (fs.map FE.n).Nodup) : ((fs.map FE.ent).map (·.born)).Nodup := by
  rw [List.map_map]; exact h
def iBox (ib mb : Nat) (clock : Nat) (seen : Array Nat) : Slot := ⟨ib, .obj (.mapIter (some mb) clock seen clock)⟩
theorem f_used (g : GH) (db mb : Nat) (d : Dk) (h : Fok g d) :
    Tri Try.prog 19 [.pointer (some ⟨db, 0, none⟩)] g [dBox db mb d, mBox mb d] fun v g' m' => v = .int .i64 (total d.fs) ∧ m' = [dBox db mb d, mBox mb d] := by
  have htot := h.total_le
  refine Tri.vc [.own 0 0] Try.func19 rfl Try.ntmps19 rfl rfl ?_
  conv => whnf
  refine OOK.call [0] rfl rfl rfl (by kernel_rfl) rfl (f_ok g db mb d) (by decide) rfl ?_
  rintro v_ g1 m_ hg1 ⟨rfl, rfl⟩
  conv => whnf
  refine ⟨(by intro q; cases q), fun _ => ?_⟩
  conv => whnf
  refine OOK.range 1 rfl rfl rfl rfl ?_
  intro ib
  conv => whnf
  refine COK.loop (α := Array Nat × Nat) (fun x => [(3, .val (.int .i64 x.2)), (13, .own 2 0)]) (fun x => [dBox db mb d, mBox mb d, iBox ib mb d.clock x.1]) (fun x _ => x.2 + us lenW x.1 d.fs = total d.fs) (fun x => us (fun _ => 1) x.1 d.fs) (#[], 0) [0, 1, 2] (Sub.of (by decide) rfl ⟨rfl, rfl, trivial⟩) (by show 0 + us lenW #[] d.fs = _; rw [us_nil, Nat.zero_add]; rfl) ?_
  rintro x g2 hg2 hx
  refine vcC_ok _ _ _ _ _ ?_
  conv => whnf
  refine OOK.next (b := mb) (clock := d.clock) (seen := x.1) (es := d.fs.map FE.ent) 2 1 rfl rfl rfl rfl (born_ent h.born) (fun hall => ?_) (fun y hy hys => ?_)
  · conv => whnf
    refine ⟨(by intro q; cases q), fun _ => ?_⟩
    conv => whnf
    refine .mk ⟨_, [0, 1], _, rfl, by decide, rfl, ⟨rfl, rfl, trivial⟩, ?_, rfl⟩
    have := us_done lenW x.1 d.fs fun e he => hall e.ent (List.mem_map_of_mem he)
    rw [this] at hx
    exact int_eq (by omega)
  · obtain ⟨e, he, rfl⟩ := List.mem_map.1 hy
    conv => whnf
    refine ⟨fun _ => ?_, (by intro q; cases q)⟩
    conv => whnf
    refine OOK.entry (b := mb) (clock := d.clock) (seen := x.1) (es := d.fs.map FE.ent) 2 1 e.ent rfl rfl rfl rfl hy (nodup_ent h.nodup) ?_
    conv => whnf
    intro fb
    conv => whnf
    have h1 := us_step lenW x.1 d.fs e h.nodup he hys
    have h2 := us_step (fun _ => 1) x.1 d.fs e h.nodup he hys
    have h3 := us_le lenW x.1 d.fs
    refine ⟨(x.1.push e.n, x.2 + e.f.l.length), [0, 1, 2], Sub.of (by decide) rfl ⟨int_eq (i64_in ?_ ?_), rfl, trivial⟩, ?_, ?_⟩
    · show (-9223372036854775808 : Int) ≤ _; omega
    · have : lenW e = e.f.l.length := rfl
      show _ ≤ (9223372036854775807 : Int); omega
    · have : lenW e = e.f.l.length := rfl
      show x.2 + e.f.l.length + us lenW (x.1.push e.n) d.fs = _; omega
    · show us (fun _ => 1) (x.1.push e.n) d.fs < us (fun _ => 1) x.1 d.fs; omega
theorem strKeys_put {es : List MapEntry} (h : StrKeys es) (s : ByteArray) (v : Value) (c : Nat) : StrKeys (putE s v c es) := by
  induction es with
  | nil => intro x hx; obtain rfl := List.mem_singleton.1 hx; exact ⟨_, rfl⟩
  | cons e r ih =>
    obtain ⟨k, hk⟩ := h e List.mem_cons_self
    have hr : StrKeys r := fun x hx => h x (List.mem_cons_of_mem _ hx)
    simp only [putE, hk]
    cases s == k with
    | true =>
      intro x hx
      rcases List.mem_cons.1 hx with e1 | hx
      · subst e1; exact ⟨k, rfl⟩
      · exact hr x hx
    | false =>
      intro x hx
      rcases List.mem_cons.1 hx with rfl | hx
      · exact ⟨k, hk⟩
      · exact ih hr x hx
structure Cp where
  seen : Array Nat
  es : List MapEntry
  clock : Nat
theorem f_copy (g : GH) (db mb : Nat) (d : Dk) (h : Fok g d) :
    Tri Try.prog 38 [.pointer (some ⟨db, 0, none⟩)] g [dBox db mb d, mBox mb d] fun v g' m' => m' = [dBox db mb d, mBox mb d] ∧ ∃ cb, v = .pointer (some ⟨cb, 0, none⟩) := by
  refine Tri.vc [.own 0 0] Try.func38 rfl Try.ntmps38 rfl rfl ?_
  conv => whnf
  refine OOK.call [0] rfl rfl rfl (by kernel_rfl) rfl (f_ok g db mb d) (by decide) rfl ?_
  rintro v_ g1 m_ hg1 ⟨rfl, rfl⟩
  conv => whnf
  refine ⟨(by intro q; cases q), fun _ => ?_⟩
  conv => whnf
  intro cb
  conv => whnf
  refine OOK.makeMap rfl ?_
  intro nb
  conv => whnf
  refine OOK.range 1 rfl rfl rfl rfl ?_
  intro ib
  conv => whnf
  refine COK.loop (α := Cp) (fun x => [(3, .own 2 0), (18, .own 4 0)]) (fun x => [dBox db mb d, mBox mb d, dBox cb nb d, ⟨nb, .obj (.map x.es.toArray x.clock)⟩, iBox ib mb d.clock x.seen]) (fun x _ => StrKeys x.es) (fun x => us (fun _ => 1) x.seen d.fs) ⟨#[], [], 0⟩ [0, 1, 2, 3, 4] (Sub.of (by decide) rfl ⟨rfl, rfl, trivial⟩) (fun x hx => by simp at hx) ?_
  rintro ⟨seen, es, clock⟩ g2 hg2 hx
  refine vcC_ok _ _ _ _ _ ?_
  conv => whnf
  refine OOK.next (b := mb) (clock := d.clock) (seen := seen) (es := d.fs.map FE.ent) 4 1 rfl rfl rfl rfl (born_ent h.born) (fun hall => ?_) (fun y hy hys => ?_)
  · conv => whnf
    refine ⟨(by intro q; cases q), fun _ => ?_⟩
    conv => whnf
    exact .mk ⟨_, [0, 1], _, rfl, by decide, rfl, ⟨rfl, rfl, trivial⟩, rfl, cb, rfl⟩
  · obtain ⟨e, he, rfl⟩ := List.mem_map.1 hy
    conv => whnf
    refine ⟨fun _ => ?_, (by intro q; cases q)⟩
    conv => whnf
    refine OOK.entry (b := mb) (clock := d.clock) (seen := seen) (es := d.fs.map FE.ent) 4 1 e.ent rfl rfl rfl rfl hy (nodup_ent h.nodup) ?_
    conv => whnf
    intro fb
    conv => whnf
    refine COK.draw [2, 5] (by kernel_rfl) (by kernel_rfl) ?_
    conv => whnf
    refine OOK.call [] rfl rfl rfl (by kernel_rfl) rfl (f_cloneR g2 e.f.A e.f.c e.f.l ((h.rows e he).mono (hg1.trans hg2)) (by have := h.len e he; omega)) (by decide) rfl ?_
    rintro v_ g3 m_ hg3 ⟨rfl, A', c', rfl, hc', hr'⟩
    conv => whnf
    refine ⟨⟨rfl, rfl, rfl, rfl, rfl, rfl, trivial⟩, ?_⟩
    conv => whnf
    refine OOK.mapUpdate 3 rfl rfl rfl rfl rfl rfl rfl hx rfl rfl ?_
    conv => whnf
    refine ⟨⟨rfl, rfl, rfl, rfl, rfl, rfl, trivial⟩, ?_⟩
    conv => whnf
    have h2 := us_step (fun _ => 1) seen d.fs e h.nodup he hys
    refine ⟨⟨seen.push e.n, _, _⟩, [0, 1, 2, 3, 4], Sub.of (by decide) rfl ⟨rfl, rfl, trivial⟩, strKeys_put hx _ _ _, ?_⟩
    show us (fun _ => 1) (seen.push e.n) d.fs < us (fun _ => 1) seen d.fs
    omega
end Go.Proofs.Ytkkefknmahnjnaa
