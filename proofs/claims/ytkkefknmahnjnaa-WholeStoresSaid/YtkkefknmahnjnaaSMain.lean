/- WholeStores: the walk of the whole. -/
import Derived.Test.YtkkefknmahnjnaaSLaw
import Derived.Test.YtkkefknmahnjnaaHand
set_option linter.unusedVariables false
set_option linter.unusedSimpArgs false
set_option maxRecDepth 100000
namespace Go.Proofs.Ytkkefknmahnjnaa
open Go Go.SX

structure WS where
  i : Nat
  h : Hd
  fuse : Int
  dead : Bool
  hs : List Rec
  s : Slot
  A : Option Addr
  c : Nat
  B : Option Addr
  ps : List Rec
  pc : Nat
  d : Dk
  rs : List Rec
  s2 : Slot
  C : Option Addr
  e : Nat
  jb : Nat
structure WS.ok (k : Nat) (g : GH) (x : WS) : Prop where
  h : x.h.ok g
  own : OwnAt 22 1 Rec.enc x.hs x.s x.A x.c
  own2 : OwnAt 22 1 Rec.enc x.rs x.s2 x.C x.e
  rows : ∀ r ∈ x.hs, Row g encB r.A r.l
  rows2 : ∀ r ∈ x.rs, Row g encB r.A r.l
  same : x.rs.map Rec.l = x.hs.map Rec.l
  prow : Row g Rec.enc x.B x.ps
  prows : ∀ r ∈ x.ps, Row g encB r.A r.l
  p1 : x.ps.length ≤ 1
  len : x.hs.length + x.ps.length ≤ k
  lb : ∀ r ∈ x.hs ++ x.ps, r.l.length ≤ 11
  sim : Sim x.fuse x.dead x.d
  lo : -1 ≤ x.fuse
  alive : x.dead = false → x.ps = [] ∧ LogF g x.d (framesL (x.hs.map Rec.l)) (framesL (x.hs.map Rec.l)).length
  disk : OnDisk g x.d x.hs x.ps
theorem WS.ok.mono {k : Nat} {g g' : GH} {x : WS} (o : x.ok k g) (hg : g.le g') : x.ok k g' :=
  ⟨o.h.mono hg, o.own, o.own2, fun r hr => (o.rows r hr).mono hg, fun r hr => (o.rows2 r hr).mono hg, o.same, o.prow.mono hg, fun r hr => (o.prows r hr).mono hg, o.p1, o.len, o.lb, o.sim, o.lo, fun hd => ⟨(o.alive hd).1, (o.alive hd).2.mono hg⟩, o.disk.mono hg⟩
structure BS where
  h : Hd
  b : List UInt8
  s : Slot
  A : Option Addr
  c : Nat
theorem WS.ok.stay {k : Nat} {g g' : GH} {i : Nat} {h h' : Hd} {fuse dead hs s A c B ps pc d rs s2 C e jb} (o : (⟨i, h, fuse, dead, hs, s, A, c, B, ps, pc, d, rs, s2, C, e, jb⟩ : WS).ok k g) (hg : g.le g') (hh : h'.ok g') : (⟨i, h', fuse, dead, hs, s, A, c, B, ps, pc, d, rs, s2, C, e, jb⟩ : WS).ok (k + 1) g' := by
  have o := o.mono hg
  exact ⟨hh, o.own, o.own2, o.rows, o.rows2, o.same, o.prow, o.prows, o.p1, Nat.le_succ_of_le o.len, o.lb, o.sim, o.lo, o.alive, o.disk⟩
/-- Behind Open. -/
theorem WS.opened {k : Nat} {g : GH} {h : Hd} {hs : List Rec} {s : Slot} {A : Option Addr} {c : Nat} {x : Rd} {fuse : Int} {d : Dk} {jb i : Nat} (hh : h.ok g) (hO : OwnAt 22 1 Rec.enc hs s A c) (hr : ∀ r ∈ hs, Row g encB r.A r.l) (hx : x.ok (hs.map Rec.l) g) (hxl : x.rs.length = (hs.map Rec.l).length) (hlen : hs.length ≤ k) (hlb : ∀ r ∈ hs, r.l.length ≤ 11)
    (hf : fuse = -1) (hd : AlF (framesL (hs.map Rec.l)) (framesL (hs.map Rec.l)).length d g) (B : Option Addr) (pc : Nat) :
    (⟨i, h, fuse, false, hs, s, A, c, B, [], pc, d, x.rs, x.s, x.A, x.c, jb⟩ : WS).ok k g :=
  ⟨hh, hO, hx.own, hr, hx.rows, by show x.rs.map Rec.l = _; rw [hx.map, hxl, List.take_length], fun h => absurd rfl h, fun r hr => by simp at hr, Nat.zero_le _, by simpa using hlen, fun r hr => hlb r (by simpa using hr), ⟨hd.1.st, .inl ⟨hd.1.fz, by show fuse < 0; omega⟩, hd.1.z⟩, by show -1 ≤ fuse; omega, fun _ => ⟨rfl, hd.2⟩, .inl (by simpa [framesL] using hd.2)⟩
set_option maxHeartbeats 20000000 in
theorem f_whole (g : GH) (A : Option Addr) (n c : Nat) (hb : BytesG g A n) :
    Tri Try.prog 3 [.slice A n c] g [] fun v g' m' => v = .bool true ∧ m' = [] := by
  refine Tri.cok [.val (.slice A n c)] Try.func3 rfl Try.ntmps3 rfl rfl ?_
  refine COK.seq (vcC_ok _ _ _ _ _ ?_)
  conv => whnf
  refine COK.seq (vcC_ok _ _ _ _ _ ?_)
  conv => whnf
  refine ⟨fun _ => ?_, fun q => ?_⟩
  · conv => whnf
    exact .mk ⟨_, [], _, rfl, by decide, rfl, trivial, rfl, rfl⟩
  have hn : n ≤ 4096 := by have := of_decide_eq_false q; omega
  conv => whnf
  refine COK.seq (vcC_ok _ _ _ _ _ ?_)
  conv => whnf
  refine OOK.call [] rfl rfl rfl (by kernel_rfl) rfl (hand_new g A n c hn hb) (by decide) rfl ?_
  rintro v g1 m1 hg1 ⟨hB, s, rfl, rfl⟩
  conv => whnf
  refine COK.seq (vcC_ok _ _ _ _ _ ?_)
  conv => whnf
  refine OOK.call [] rfl rfl rfl (by kernel_rfl) rfl (f_new g1) (by decide) rfl ?_
  rintro v g2 m2 hg2 ⟨db, mb, rfl, rfl⟩
  conv => whnf
  refine COK.seq (vcC_ok _ _ _ _ _ ?_)
  conv => whnf
  refine ⟨fun q => absurd q (by decide), fun _ => ?_⟩
  conv => whnf
  refine COK.seq (vcC_ok _ _ _ _ _ ?_)
  conv => whnf
  intro sb
  conv => whnf
  refine COK.dummy 0 ?_
  refine COK.weaken (E := [(3, .own 0 0), (4, .val (.pointer (some ⟨db, 0, none⟩))), (6, .own 3 0)]) (M := [(⟨A, n, c, 0, s, 260, .slice none 0 0, 0, false⟩ : Hd).slot hB, dBox db mb ⟨[], 0, false, false, 0⟩, mBox mb ⟨[], 0, false, false, 0⟩, sBox sb (-1) false none 0 0 none 0 0, ⟨0, .dead⟩]) (is := [0, 1, 2, 3, 4]) (Sub.of (by decide) rfl ⟨rfl, rfl, rfl, trivial⟩) ?_
  refine COK.seq (vcC_ok _ _ _ _ _ ?_)
  conv => whnf
  refine OOK.call [3, 4, 1, 2] rfl rfl rfl (by kernel_rfl) rfl (f_sopen g2 sb db mb (-1) false [] ⟨0, .dead⟩ none 0 none 0 0 ⟨[], 0, false, false, 0⟩ [] [] ⟨rfl, rfl, ⟨by decide, by decide⟩⟩ (.inl ⟨rfl, rfl, rfl⟩) short_nil (.nil _ rfl) rfl (fun r hr => by simp at hr) (by decide) (fun r hr => by simp at hr)) (by decide) rfl ?_
  rintro v_ g3 m_ hg3 ⟨x, jb, d1, hx1, hxl1, hd1, rfl, rfl⟩
  conv => whnf
  refine COK.seq (vcC_ok _ _ _ _ _ ?_)
  conv => whnf
  refine ⟨(by intro q; cases q), fun _ => ?_⟩
  conv => whnf
  refine COK.seq (vcC_ok _ _ _ _ _ ?_)
  conv => whnf
  refine OOK.call [0] rfl rfl rfl (by kernel_rfl) rfl (hand_n g3 hB ⟨A, n, c, 0, s, 260, .slice none 0 0, 0, false⟩ 60 ⟨Int.le_refl 0, by simp only; omega, hn, hb.mono ((hg1.trans hg2).trans hg3)⟩ (by omega) (by omega)) (by decide) rfl ?_
  rintro v g4 m4 hg4 ⟨N, h1, rfl, hN0, hN1, -, hok1, rfl⟩
  conv => whnf
  refine COK.loop (α := WS) (fun x => [(3, .own 0 0), (4, .val (.pointer (some ⟨db, 0, none⟩))), (6, .own 3 0), (7, .val (.pointer (some ⟨x.jb, 0, none⟩))), (36, .val (.int .i64 N)), (37, .val (.int .i64 x.i))])
    (fun x => [x.h.slot hB, dBox db mb x.d, mBox mb x.d, sBox sb x.fuse x.dead x.A x.hs.length x.c x.B x.ps.length x.pc, x.s, x.s2, jBox x.jb db x.C x.rs.length x.e x.dead]) (fun x g => (x.i : Int) ≤ N ∧ x.ok x.i g) (fun x => (N - x.i).toNat)
    ⟨0, h1, -1, false, [], ⟨0, .dead⟩, none, 0, none, [], 0, d1, x.rs, x.s, x.A, x.c, jb⟩ [0, 1, 2, 3, 4, 5, 6] (Sub.of (by decide) rfl ⟨rfl, rfl, rfl, rfl, rfl, rfl, trivial⟩)
    ⟨hN0, WS.opened hok1 (.nil _ rfl) (fun r hr => by simp at hr) ⟨hx1.map, hx1.le, hx1.own, fun r hr => (hx1.rows r hr).mono hg4⟩ hxl1 (Nat.le_refl _) (fun r hr => by simp at hr) rfl ⟨hd1.1, hd1.2.mono hg4⟩ none 0⟩ ?_
  clear hx1 hxl1 hd1 hok1
  rintro ⟨i, h, fuse, dead, hs, s, A, c, B, ps, pc, d, rs, s2, C, e, jb⟩ g5 hg5 ⟨hi, hI⟩
  have ⟨hh, hown, hown2, hrows, hrows2, hsame, hprow, hprows, hp1, hlen, hlb, hsim, hlo, halive, hdisk⟩ := hI
  simp only at hi hh hown hown2 hrows hrows2 hsame hprow hprows hp1 hlen hlb hsim hlo halive hdisk
  dsimp only
  refine COK.seq (vcC_ok _ _ _ _ _ ?_)
  conv => whnf
  refine COK.seq (vcC_ok _ _ _ _ _ ?_)
  conv => whnf
  refine ⟨fun q => ?_, fun q => ?_⟩
  rotate_left
  · conv => whnf
    refine vcC_ok _ _ _ _ _ ?_
    conv => whnf
    exact .mk ⟨_, [], _, rfl, by decide, rfl, trivial, rfl, rfl⟩
  have hlt : (i : Int) < N := of_decide_eq_true q
  conv => whnf
  refine COK.seq (COK.block ?_)
  refine COK.seq (vcC_ok _ _ _ _ _ ?_)
  conv => whnf
  refine COK.dummy 0 ?_
  refine COK.seq (COK.cut (α := BS) (fun y => [(3, .own 0 0), (4, .val (.pointer (some ⟨db, 0, none⟩))), (6, .own 3 0), (7, .val (.pointer (some ⟨jb, 0, none⟩))), (9, .val (.slice y.A y.b.length y.c)), (36, .val (.int .i64 N)), (37, .val (.int .i64 i))])
    (fun y => [y.h.slot hB, dBox db mb d, mBox mb d, sBox sb fuse dead A hs.length c B ps.length pc, s, s2, jBox jb db C rs.length e dead, y.s]) (fun y g => y.h.ok g ∧ OwnAt 5 1 encB y.b y.s y.A y.c ∧ y.b.length ≤ 11) ?_ ?_)
  · refine COK.seq (vcC_ok _ _ _ _ _ ?_)
    conv => whnf
    refine OOK.call [0] rfl rfl rfl (by kernel_rfl) rfl (hand_n g5 hB h 12 hh (by omega) (by omega)) (by decide) rfl ?_
    rintro v_ g6 m_ hg6 ⟨u6, h6, rfl, u60, u61, hnh6, hh6, rfl⟩
    conv => whnf
    refine COK.block ?_
    refine COK.loop (α := BS) (fun y => [(3, .own 0 0), (4, .val (.pointer (some ⟨db, 0, none⟩))), (6, .own 3 0), (7, .val (.pointer (some ⟨jb, 0, none⟩))), (9, .val (.slice y.A y.b.length y.c)), (36, .val (.int .i64 N)), (37, .val (.int .i64 i)), (40, .val (.int .i64 u6)), (41, .val (.int .i64 y.b.length))])
      (fun y => [y.h.slot hB, dBox db mb d, mBox mb d, sBox sb fuse dead A hs.length c B ps.length pc, s, s2, jBox jb db C rs.length e dead, y.s]) (fun y g => y.h.ok g ∧ OwnAt 5 1 encB y.b y.s y.A y.c ∧ (y.b.length : Int) ≤ u6) (fun y => (u6 - y.b.length).toNat)
      ⟨h6, [], ⟨0, .dead⟩, none, 0⟩ [0, 1, 2, 3, 4, 5, 6, 7] (Sub.of (by decide) rfl ⟨rfl, rfl, rfl, rfl, rfl, rfl, rfl, rfl, rfl, trivial⟩) ⟨hh6, .nil _ rfl, u60⟩ ?_
    rintro ⟨h7, b, so, Ab, cb⟩ g7 hg7 ⟨hh7, hOb, hbu⟩
    simp only at hh7 hOb hbu
    dsimp only
    refine vcC_ok _ _ _ _ _ ?_
    conv => whnf
    refine ⟨fun q1 => ?_, fun q1 => ?_⟩
    · have hbl : (b.length : Int) < u6 := of_decide_eq_true q1
      conv => whnf
      refine OOK.call [0] rfl rfl rfl (by kernel_rfl) rfl (hand_n g7 hB h7 256 hh7 (by omega) (by omega)) (by decide) rfl ?_
      rintro v_ g8 m_ hg8 ⟨u8, h8, rfl, u80, u81, hnh8, hh8, rfl⟩
      conv => whnf
      obtain ⟨w, hw⟩ : ∃ w : UInt8, IntKind.u8.wrap u8 = (w.toNat : Int) := ⟨UInt8.ofNat u8.toNat, by
        have h1 : IntKind.u8.wrap u8 = u8 := u8_in (by omega) (by omega)
        rw [h1, UInt8.toNat_ofNat']
        omega⟩
      rw [hw]
      intro vb
      conv => whnf
      refine OOK.appendRowB w 7 encB_len rfl rfl rfl rfl (.inl ⟨_, rfl⟩) rfl (size := 1) (bytes := 1) rfl rfl rfl (by decide) rfl rfl hOb
        (Src.own (i := 8) (q := 0) (cs := encB w) (t := 5) (fr := (0, 0)) rfl rfl (fun j v hj => by simpa using hj)) (encB_one _) (by show (2 * (b.length + 1) + 1000) * 1 ≤ _; omega) ?_
      intro s' A' c' hO'
      conv => whnf
      refine ⟨⟨h8, b ++ [w], s', A', c'⟩, [0, 1, 2, 3, 4, 5, 6, 9], Sub.of (by decide) rfl ⟨rfl, rfl, rfl, rfl, ?_, rfl, rfl, rfl, int_eq ?_, trivial⟩, ⟨hh8, hO', ?_⟩, ?_⟩
      · show Value.slice A' (b.length + 1) c' = Value.slice A' (b ++ [_]).length c'
        rw [List.length_append]; rfl
      · rw [List.length_append]
        exact i64_in (by omega) (by omega)
      · show ((b ++ [w]).length : Int) ≤ u6
        rw [List.length_append]
        simp only [List.length_cons, List.length_nil]
        omega
      · show (u6 - (b ++ [w]).length).toNat < (u6 - b.length).toNat
        rw [List.length_append]
        simp only [List.length_cons, List.length_nil]
        omega
    · conv => whnf
      have hbl : ¬ (b.length : Int) < u6 := of_decide_eq_false q1
      exact ⟨⟨h7, b, so, Ab, cb⟩, [0, 1, 2, 3, 4, 5, 6, 7], Sub.of (by decide) rfl ⟨rfl, rfl, rfl, rfl, rfl, rfl, rfl, trivial⟩, hh7, hOb, by show b.length ≤ 11; omega⟩
  rintro ⟨h7, b, so, Ab, cb⟩ g7 hg7 ⟨hh7, hOb, hbl⟩
  simp only at hh7 hOb hbl
  refine COK.rowF 7 hOb rfl fun g8 hg8 hrb => ?_
  have hh8 := hh7.mono hg8
  have hg58 := hg7.trans hg8
  have hI8 := hI.mono hg58
  have ⟨_, _, _, hrows8, hrows28, _, hprow8, hprows8, _, _, _, _, _, halive8, hdisk8⟩ := hI8
  simp only at hrows8 hrows28 hprow8 hprows8 halive8 hdisk8
  refine COK.weaken (E := [(3, .own 0 0), (4, .val (.pointer (some ⟨db, 0, none⟩))), (6, .own 3 0), (7, .val (.pointer (some ⟨jb, 0, none⟩))), (9, .val (.slice Ab b.length cb)), (36, .val (.int .i64 N)), (37, .val (.int .i64 i))]) (M := [h7.slot hB, dBox db mb d, mBox mb d, sBox sb fuse dead A hs.length c B ps.length pc, s, s2, jBox jb db C rs.length e dead]) (is := [0, 1, 2, 3, 4, 5, 6]) (Sub.of (by decide) rfl ⟨rfl, rfl, rfl, rfl, rfl, rfl, rfl, trivial⟩) ?_
  refine COK.seq (vcC_ok _ _ _ _ _ ?_)
  conv => whnf
  refine COK.seq (vcC_ok _ _ _ _ _ ?_)
  conv => whnf
  have hhl : hs.length ≤ 60 := by omega
  have hpl : ∀ p ∈ ps, p.l.length ≤ 1000 := fun p hp => by have := hlb p (List.mem_append_right _ hp); omega
  refine COK.seq (COK.cut (α := WS) (fun x => [(3, .own 0 0), (4, .val (.pointer (some ⟨db, 0, none⟩))), (6, .own 3 0), (7, .val (.pointer (some ⟨x.jb, 0, none⟩))), (10, .val (.bool true)), (36, .val (.int .i64 N)), (37, .val (.int .i64 i))])
    (fun x => [x.h.slot hB, dBox db mb x.d, mBox mb x.d, sBox sb x.fuse x.dead x.A x.hs.length x.c x.B x.ps.length x.pc, x.s, x.s2, jBox x.jb db x.C x.rs.length x.e x.dead]) (fun x g => x.ok (i + 1) g) ?_ ?_)
  · refine COK.seq (vcC_ok _ _ _ _ _ ?_)
    conv => whnf
    refine OOK.call [0] rfl rfl rfl (by kernel_rfl) rfl (hand_n g8 hB h7 9 hh8 (by omega) (by omega)) (by decide) rfl ?_
    rintro v_ g9 m_ hg9 ⟨u9, h9, rfl, u90, u91, hnh9, hh9, rfl⟩
    conv => whnf
    refine COK.block ?_
    refine COK.seq (vcC_ok _ _ _ _ _ ?_)
    conv => whnf
    have hI9 := hI8.mono hg9
    have ⟨_, _, _, hrows9, hrows29, _, hprow9, hprows9, _, _, _, _, _, halive9, hdisk9⟩ := hI9
    simp only at hrows9 hrows29 hprow9 hprows9 halive9 hdisk9
    refine COK.cond rfl (fun q0 => ?_) (fun q0 => ?_)
    · refine COK.seq (vcC_ok _ _ _ _ _ ?_)
      conv => whnf
      refine OOK.call [0] rfl rfl rfl (by kernel_rfl) rfl (hand_n g9 hB h9 24 hh9 (by omega) (by omega)) (by decide) rfl ?_
      rintro v_ g10 m_ hg10 ⟨kp, h10, rfl, kp0, kp1, hnh10, hh10, rfl⟩
      obtain ⟨keep, rfl⟩ : ∃ k : Nat, kp = k := Int.eq_ofNat_of_zero_le kp0
      conv => whnf
      refine COK.seq (vcC_ok _ _ _ _ _ ?_)
      conv => whnf
      refine OOK.call [3, 4] rfl rfl rfl (by kernel_rfl) rfl (f_crashS g10 sb fuse dead hs s A c B pc ps keep hown (hprow9.mono hg10) (by omega) hp1 hpl (by omega)) (by decide) rfl ?_
      rintro v_ g11 m_ hg11 ⟨rfl, s', A', c', hO', rfl⟩
      conv => whnf
      refine COK.seq (vcC_ok _ _ _ _ _ ?_)
      conv => whnf
      refine OOK.call [1, 2] rfl rfl rfl (by kernel_rfl) rfl (f_crash g11 db mb d keep (hdisk9.mono (hg10.trans hg11)).fok (by omega)) (by decide) rfl ?_
      rintro v_ g12 m_ hg12 ⟨rfl, fs', hCr, rfl⟩
      conv => whnf
      obtain ⟨tail, ht, hF⟩ := hdisk9.crash hp1 hpl hCr
      refine ⟨fun q => absurd q (by decide), fun _ => ?_⟩
      conv => whnf
      have hg912 := (hg10.trans hg11).trans hg12
      have hkl := keptP_len keep ps
      have hlen2 : (hs ++ keptP keep ps).length ≤ i + 1 := by rw [List.length_append]; omega
      have hlb2 : ∀ r ∈ hs ++ keptP keep ps, r.l.length ≤ 11 := fun r hr => by
        rcases List.mem_append.1 hr with hr | hr
        · exact hlb r (List.mem_append_left _ hr)
        · exact hlb r (List.mem_append_right _ (keptP_mem hr))
      have hrow2 : ∀ r ∈ hs ++ keptP keep ps, Row g12 encB r.A r.l := fun r hr => by
        rcases List.mem_append.1 hr with hr | hr
        · exact (hrows9 r hr).mono hg912
        · exact (hprows9 r (keptP_mem hr)).mono hg912
      refine vcC_ok _ _ _ _ _ ?_
      conv => whnf
      refine OOK.call [3, 7, 1, 2] rfl rfl rfl (by kernel_rfl) rfl (f_sopen g12 sb db mb (-1) false (hs ++ keptP keep ps) s' A' c' none 0 0 ⟨fs', d.clock, false, false, 0⟩ _ tail ⟨rfl, rfl, ⟨Int.le_refl _, by show (0 : Int) ≤ 1000; omega⟩⟩ hF ht hO' rfl hrow2 (by omega) (fun l hl => by
        obtain ⟨r, hr, rfl⟩ := List.mem_map.1 hl
        have := hlb2 r hr; omega)) (by decide) rfl ?_
      rintro v_ g13 m_ hg13 ⟨x, jb', d', hx, hxl, hd', rfl, rfl⟩
      conv => whnf
      exact ⟨⟨i, h10, -1, false, hs ++ keptP keep ps, s', A', c', none, [], 0, d', x.rs, x.s, x.A, x.c, jb'⟩, [0, 1, 2, 3, 7, 8, 9], Sub.of (by decide) rfl ⟨rfl, rfl, rfl, rfl, rfl, rfl, rfl, trivial⟩, WS.opened (hh10.mono ((hg11.trans hg12).trans hg13)) hO' (fun r hr => (hrow2 r hr).mono hg13) hx hxl hlen2 hlb2 rfl hd' none 0⟩
    refine COK.seq (vcC_ok _ _ _ _ _ ?_)
    conv => whnf
    refine COK.cond rfl (fun q1 => ?_) (fun q1 => ?_)
    · refine COK.seq (vcC_ok _ _ _ _ _ ?_)
      conv => whnf
      have hstay : ∀ g', g9.le g' → (⟨i, h9, fuse, dead, hs, s, A, c, B, ps, pc, d, rs, s2, C, e, jb⟩ : WS).ok (i + 1) g' := fun g' hg' =>
        ⟨hh9.mono hg', hown, hown2, fun r hr => (hrows9 r hr).mono hg', fun r hr => (hrows29 r hr).mono hg', hsame, hprow9.mono hg', fun r hr => (hprows9 r hr).mono hg', hp1, by simp only; omega, hlb, hsim, hlo, fun hd => ⟨(halive9 hd).1, (halive9 hd).2.mono hg'⟩, hdisk9.mono hg'⟩
      refine ⟨fun qf => ?_, fun qf => ?_⟩
      · conv => whnf
        refine COK.cond rfl (fun qd => ?_) (fun qd => ?_)
        · obtain rfl : dead = false := by simpa using qd
          obtain ⟨rfl, hlog⟩ := halive9 rfl
          obtain rfl : fuse = -1 := by have := of_decide_eq_true qf; omega
          have hAl : Al d := ⟨hsim.st, by
            rcases hsim.fz with ⟨k1, _⟩ | ⟨_, _, k1⟩
            · exact k1
            · omega, hsim.z⟩
          refine vcC_ok _ _ _ _ _ ?_
          conv => whnf
          refine OOK.call [3, 4, 1, 2] rfl rfl rfl (by kernel_rfl) rfl (f_sopen g9 sb db mb (-1) false hs s A c B 0 pc d (hs.map Rec.l) [] hAl (.inr (.inl ⟨_, by rw [List.append_nil]; exact hlog⟩)) short_nil hown rfl hrows9 (by omega) (fun l hl => by
            obtain ⟨r, hr, rfl⟩ := List.mem_map.1 hl
            have := hlb r (List.mem_append_left _ hr); omega)) (by decide) rfl ?_
          rintro v_ g10 m_ hg10 ⟨x, jb', d', hx, hxl, hd', rfl, rfl⟩
          conv => whnf
          exact ⟨⟨i, h9, -1, false, hs, s, A, c, B, [], pc, d', x.rs, x.s, x.A, x.c, jb'⟩, [0, 1, 2, 3, 4, 7, 8], Sub.of (by decide) rfl ⟨rfl, rfl, rfl, rfl, rfl, rfl, rfl, trivial⟩, WS.opened (hh9.mono hg10) hown (fun r hr => (hrows9 r hr).mono hg10) hx hxl (by omega) (fun r hr => hlb r (List.mem_append_left _ hr)) rfl hd' B pc⟩
        · refine vcC_ok _ _ _ _ _ ?_
          conv => whnf
          exact ⟨⟨i, h9, fuse, dead, hs, s, A, c, B, ps, pc, d, rs, s2, C, e, jb⟩, [0, 1, 2, 3, 4, 5, 6], Sub.of (by decide) rfl ⟨rfl, rfl, rfl, rfl, rfl, rfl, rfl, trivial⟩, hstay g9 (.refl _)⟩
      · conv => whnf
        refine COK.cond rfl (fun qd => ?_) (fun qd => ?_)
        · cases qd
        · refine vcC_ok _ _ _ _ _ ?_
          conv => whnf
          exact ⟨⟨i, h9, fuse, dead, hs, s, A, c, B, ps, pc, d, rs, s2, C, e, jb⟩, [0, 1, 2, 3, 4, 5, 6], Sub.of (by decide) rfl ⟨rfl, rfl, rfl, rfl, rfl, rfl, rfl, trivial⟩, hstay g9 (.refl _)⟩
    refine COK.seq (COK.cut (α := Bool) (fun x => [(3, .own 0 0), (4, .val (.pointer (some ⟨db, 0, none⟩))), (6, .own 3 0), (7, .val (.pointer (some ⟨jb, 0, none⟩))), (9, .val (.slice Ab b.length cb)), (10, .val (.bool true)), (11, .val (.int .i64 0)), (36, .val (.int .i64 N)), (37, .val (.int .i64 i)), (51, .val (.int .i64 u9)), (98, .val (.bool x))])
      (fun _ => [h9.slot hB, dBox db mb d, mBox mb d, sBox sb fuse dead A hs.length c B ps.length pc, s, s2, jBox jb db C rs.length e dead]) (fun _ _ => True) ?_ ?_)
    · refine vcC_ok _ _ _ _ _ ?_
      conv => whnf
      refine ⟨fun q2 => ?_, fun q2 => ?_⟩
      · conv => whnf
        exact ⟨u9 == 2, [0, 1, 2, 3, 4, 5, 6], Sub.of (by decide) rfl ⟨rfl, rfl, rfl, rfl, rfl, rfl, rfl, rfl, rfl, rfl, rfl, trivial⟩, trivial⟩
      · conv => whnf
        exact ⟨u9 == 3, [0, 1, 2, 3, 4, 5, 6], Sub.of (by decide) rfl ⟨rfl, rfl, rfl, rfl, rfl, rfl, rfl, rfl, rfl, rfl, rfl, trivial⟩, trivial⟩
    rintro xq g9' hg9' -
    have hI9' := hI9.mono hg9'
    have hh9' := hh9.mono hg9'
    clear hrows9 hrows29 hprow9 hprows9 halive9 hdisk9
    have ⟨_, _, _, hrows9, hrows29, _, hprow9, hprows9, _, _, _, _, _, halive9, hdisk9⟩ := hI9'
    simp only at hrows9 hrows29 hprow9 hprows9 halive9 hdisk9
    refine COK.cond rfl (fun q2 => ?_) (fun q2 => ?_)
    · refine COK.seq (vcC_ok _ _ _ _ _ ?_)
      conv => whnf
      refine OOK.call [0] rfl rfl rfl (by kernel_rfl) rfl (hand_n g9' hB h9 8 hh9' (by omega) (by omega)) (by decide) rfl ?_
      rintro v_ g10 m_ hg10 ⟨nf, h10, rfl, nf0, nf1, hnh10, hh10, rfl⟩
      conv => whnf
      refine COK.seq (vcC_ok _ _ _ _ _ ?_)
      conv => whnf
      refine COK.cond rfl (fun qd => ?_) (fun qd => ?_)
      · obtain rfl : dead = false := by simpa using qd
        obtain ⟨rfl, hlog⟩ := halive9 rfl
        refine vcC_ok _ _ _ _ _ ?_
        conv => whnf
        refine OOK.call [1] rfl rfl rfl (by kernel_rfl) rfl (f_fuse g10 db mb d nf nf0 hsim.st) (by decide) rfl ?_
        rintro v_ g11 m_ hg11 ⟨rfl, rfl⟩
        conv => whnf
        have hm := hg10.trans hg11
        exact ⟨⟨i, h10, nf, false, hs, s, A, c, B, [], pc, { d with fused := true, fuse := nf }, rs, s2, C, e, jb⟩, [0, 1, 2, 3, 4, 5, 6], Sub.of (by decide) rfl ⟨rfl, rfl, rfl, rfl, rfl, rfl, rfl, trivial⟩,
          hh10.mono hg11, hown, hown2, fun r hr => (hrows9 r hr).mono hm, fun r hr => (hrows29 r hr).mono hm, hsame, hprow9.mono hm, fun r hr => (hprows9 r hr).mono hm, hp1, by simp only at hlen ⊢; omega, hlb, ⟨hsim.st, .inr ⟨rfl, rfl, nf0⟩, ⟨nf0, by show nf ≤ 1000; omega⟩⟩, by show -1 ≤ nf; omega, fun _ => ⟨rfl, (hlog.mono hm).same rfl rfl⟩, (hdisk9.mono hm).same rfl rfl⟩
      · refine vcC_ok _ _ _ _ _ ?_
        conv => whnf
        have hm := hg10
        exact ⟨⟨i, h10, fuse, dead, hs, s, A, c, B, ps, pc, d, rs, s2, C, e, jb⟩, [0, 1, 2, 3, 4, 5, 6], Sub.of (by decide) rfl ⟨rfl, rfl, rfl, rfl, rfl, rfl, rfl, trivial⟩, 
          hh10, hown, hown2, fun r hr => (hrows9 r hr).mono hm, fun r hr => (hrows29 r hr).mono hm, hsame, hprow9.mono hm, fun r hr => (hprows9 r hr).mono hm, hp1, by simp only at hlen ⊢; omega, hlb, hsim, hlo, fun hd => ⟨(halive9 hd).1, (halive9 hd).2.mono hm⟩, hdisk9.mono hm⟩
    refine COK.seq (vcC_ok _ _ _ _ _ ?_)
    conv => whnf
    refine COK.cond rfl (fun q4 => ?_) (fun q4 => ?_)
    · rcases Bool.eq_false_or_eq_true dead with hdd | hdd
      · subst hdd
        refine vcC_ok _ _ _ _ _ ?_
        conv => whnf
        refine OOK.call [3, 4] rfl rfl rfl (by kernel_rfl) rfl (f_replaceS g9' sb fuse true s A hs.length c B ps.length pc ⟨Ab, cb, b⟩ (hsim.rng (by omega)) (by omega)) (by decide) rfl ?_
        rw [run_t]
        rintro v_ g10 m_ hg10 ⟨rfl, ⟨_, rfl⟩ | ⟨hf, _⟩⟩
        · conv => whnf
          refine ⟨fun _ => ?_, (by intro q; cases q)⟩
          conv => whnf
          refine OOK.call [6] rfl rfl rfl (by kernel_rfl) rfl (f_jcomD g10 jb db C rs.length e Ab b cb (hrb.mono (((hg9.trans hg9').trans hg10))) (by omega)) (by decide) rfl ?_
          rintro v_ g11 m_ hg11 ⟨rfl, rfl⟩
          conv => whnf
          exact ⟨⟨i, h9, fuse, true, hs, s, A, c, B, ps, pc, d, rs, s2, C, e, jb⟩, [0, 1, 2, 3, 4, 5, 6], Sub.of (by decide) rfl ⟨rfl, rfl, rfl, rfl, rfl, rfl, rfl, trivial⟩, hI9'.stay (hg10.trans hg11) (hh9'.mono (hg10.trans hg11))⟩
        · cases hf
      · subst hdd
        obtain ⟨rfl, hlog⟩ := halive9 rfl
        have hrd := run_dead 3 fuse
        have hrl := run_lo 3 (b := false) hlo
        obtain ⟨⟨ok, f', dd⟩, hrun⟩ : ∃ r, run 3 fuse false = r := ⟨_, rfl⟩
        rw [hrun] at hrd hrl
        simp only at hrd hrl
        refine vcC_ok _ _ _ _ _ ?_
        conv => whnf
        refine OOK.call [3, 4] rfl rfl rfl (by kernel_rfl) rfl (f_replaceS g9' sb fuse false s A hs.length c B 0 pc ⟨Ab, cb, b⟩ (hsim.rng (by omega)) (by omega)) (by decide) rfl ?_
        rw [hrun]
        rintro v_ g10 m_ hg10 ⟨rfl, ⟨k1, rfl⟩ | ⟨k1, s', A', c', hO', rfl⟩⟩
        · simp only at k1
          subst k1
          obtain rfl : dd = true := hrd
          conv => whnf
          refine ⟨fun _ => ?_, (by intro q; cases q)⟩
          conv => whnf
          refine OOK.call [6, 5, 1, 2] rfl rfl rfl (by kernel_rfl) rfl (f_jcom g10 jb db mb rs s2 C e d Ab b cb (hrb.mono ((hg9.trans hg9').trans hg10)) (by omega) fuse _ _ hsim (hlog.mono hg10)) (by decide) rfl ?_
          rintro v_ g11 m_ hg11 (⟨d', rfl, hQ, rfl⟩ | ⟨d', s2', A2, c2, r, rfl, ⟨fi, k1, _⟩, _⟩)
          rotate_left
          · rw [hrun] at k1; cases k1
          conv => whnf
          obtain ⟨-, -, hsim', hdk⟩ := hQ
          rw [hrun] at hsim'
          have hm := hg10.trans hg11
          refine ⟨⟨i, h9, f', true, hs, s, A, c, B, [], pc, d', rs, s2, C, e, jb⟩, [0, 1, 2, 3, 4, 5, 6], Sub.of (by decide) rfl ⟨rfl, rfl, rfl, rfl, rfl, rfl, rfl, trivial⟩, hh9'.mono hm, hown, hown2, fun r hr => (hrows9 r hr).mono hm, fun r hr => (hrows29 r hr).mono hm, hsame, hprow9.mono hm, fun r hr => (hprows9 r hr).mono hm, hp1, by simp only at hlen ⊢; omega, hlb, hsim', hrl, (fun h => by cases h), ?_⟩
          rcases hdk with hdk | ⟨s', hdk⟩
          · exact .inl (by rw [none_app]; exact hdk)
          · exact .inr ⟨_, _, by rw [none_app]; exact hdk⟩
        · simp only at k1
          subst k1
          obtain rfl : dd = false := hrd
          conv => whnf
          refine ⟨(by intro q; cases q), fun _ => ?_⟩
          conv => whnf
          refine OOK.call [6, 5, 1, 2] rfl rfl rfl (by kernel_rfl) rfl (f_jcom g10 jb db mb rs s2 C e d Ab b cb (hrb.mono ((hg9.trans hg9').trans hg10)) (by omega) fuse _ _ hsim (hlog.mono hg10)) (by decide) rfl ?_
          rintro v_ g11 m_ hg11 (⟨d', rfl, ⟨_, k1, _⟩, rfl⟩ | ⟨d', s2', A2, c2, r, rfl, ⟨fi, k1, hsim', hdk⟩, hO2, hrl2, hrr, rfl⟩)
          · rw [hrun] at k1; cases k1
          conv => whnf
          rw [hrun] at k1
          obtain rfl : fi = f' := by cases k1; rfl
          have hm := hg10.trans hg11
          have hdk' : LogF g11 d' (frameL b) (frameL b).length := hdk
          have hfo : framesL (([⟨Ab, cb, b⟩] : List Rec).map Rec.l) = frameL b := framesL_one b
          exact ⟨⟨i, h9, fi, false, [⟨Ab, cb, b⟩], s', A', c', B, [], pc, d', [r], s2', A2, c2, jb⟩, [0, 1, 2, 3, 7, 8, 6], Sub.of (by decide) rfl ⟨rfl, rfl, rfl, rfl, rfl, rfl, rfl, trivial⟩, hh9'.mono hm, hO', hO2, (fun x hx => by obtain rfl := List.mem_singleton.1 hx; exact hrb.mono ((hg9.trans hg9').trans hm)), (fun x hx => by obtain rfl := List.mem_singleton.1 hx; exact hrr), (by show [r.l] = [b]; rw [hrl2]), hprow9.mono hm, fun r hr => (hprows9 r hr).mono hm, hp1, (by show 1 + 0 ≤ i + 1; omega), (fun x hx => by obtain rfl := List.mem_singleton.1 hx; exact hbl), hsim', hrl, (fun _ => ⟨rfl, by rw [hfo]; exact hdk'⟩), .inl (by rw [none_app, hfo]; exact hdk')⟩
    rcases Bool.eq_false_or_eq_true dead with hdd | hdd
    · subst hdd
      have hA := f_add g9' sb fuse true hs s A c B ps.length pc ⟨Ab, cb, b⟩ (hsim.rng (by omega)) (by omega) hown (by omega)
      rw [chg_t] at hA
      dsimp only at hA
      rw [chg_t] at hA
      dsimp only at hA
      refine vcC_ok _ _ _ _ _ ?_
      conv => whnf
      refine OOK.call [3, 4] rfl rfl rfl (by kernel_rfl) rfl hA (by decide) rfl ?_
      rintro v_ g10 m_ hg10 (⟨_, rfl, rfl⟩ | ⟨hf, _⟩ | ⟨hf, _⟩)
      rotate_left
      · cases hf
      · cases hf
      conv => whnf
      refine ⟨fun _ => ?_, (by intro q; cases q)⟩
      conv => whnf
      refine OOK.call [6] rfl rfl rfl (by kernel_rfl) rfl (f_jappD g10 jb db C rs.length e Ab b.length cb) (by decide) rfl ?_
      rintro v_ g11 m_ hg11 ⟨rfl, rfl⟩
      conv => whnf
      exact ⟨⟨i, h9, fuse, true, hs, s, A, c, B, ps, pc, d, rs, s2, C, e, jb⟩, [0, 1, 2, 3, 4, 5, 6], Sub.of (by decide) rfl ⟨rfl, rfl, rfl, rfl, rfl, rfl, rfl, trivial⟩, hI9'.stay (hg10.trans hg11) (hh9'.mono (hg10.trans hg11))⟩
    · subst hdd
      obtain ⟨rfl, hlog⟩ := halive9 rfl
      have hA := f_add g9' sb fuse false hs s A c B 0 pc ⟨Ab, cb, b⟩ (hsim.rng (by omega)) (by omega) hown (by omega)
      have hrl : rs.length = hs.length := by have := congrArg List.length hsame; simpa using this
      have hlb1 : ∀ r ∈ hs, r.l.length ≤ 11 := fun r hr => hlb r (List.mem_append_left _ hr)
      have hfl : (framesL (hs.map Rec.l) ++ frameL b).length ≤ 20000 := by
        rw [List.length_append, frame_len, lens_frames]
        have := lens_bound (hs.map Rec.l) fun l hl => by
          obtain ⟨r, hr, rfl⟩ := List.mem_map.1 hl
          exact hlb1 r hr
        rw [List.length_map] at this
        omega
      have hJ : ∀ g', g9'.le g' → _ := fun g' hg' => f_japp g' jb db mb rs s2 C e d Ab b cb (hrb.mono ((hg9.trans hg9').trans hg')) (by omega) fuse _ _ hsim (hlog.mono hg') hfl hown2 (by omega)
      have hrb' : ∀ g', g9'.le g' → Row g' encB Ab b := fun g' hg' => hrb.mono ((hg9.trans hg9').trans hg')
      rcases chg_f (f := fuse) with hc | ⟨hc1, hc2⟩
      · rw [hc] at hA
        dsimp only at hA
        rw [chg_t] at hA
        dsimp only at hA
        refine vcC_ok _ _ _ _ _ ?_
        conv => whnf
        refine OOK.call [3, 4] rfl rfl rfl (by kernel_rfl) rfl hA (by decide) rfl ?_
        rintro v_ g10 m_ hg10 (⟨_, rfl, rfl⟩ | ⟨hf, _⟩ | ⟨hf, _⟩)
        rotate_left
        · cases hf
        · cases hf
        conv => whnf
        refine ⟨fun _ => ?_, (by intro q; cases q)⟩
        conv => whnf
        refine OOK.call [6, 5, 1, 2] rfl rfl rfl (by kernel_rfl) rfl (hJ g10 hg10) (by decide) rfl ?_
        rintro v_ g11 m_ hg11 (⟨d', rfl, ⟨-, ⟨_, hsim', hdk⟩ | ⟨k1, _⟩⟩, rfl⟩ | ⟨d', s2', A2, c2, r, rfl, ⟨k1, _⟩, _⟩)
        rotate_left
        · rw [hc] at k1; cases k1
        · rw [hc] at k1; cases k1
        conv => whnf
        have hm := hg10.trans hg11
        exact ⟨⟨i, h9, fuse, true, hs, s, A, c, B, [], pc, d', rs, s2, C, e, jb⟩, [0, 1, 2, 3, 4, 5, 6], Sub.of (by decide) rfl ⟨rfl, rfl, rfl, rfl, rfl, rfl, rfl, trivial⟩, hh9'.mono hm, hown, hown2, fun r hr => (hrows9 r hr).mono hm, fun r hr => (hrows29 r hr).mono hm, hsame, hprow9.mono hm, fun r hr => (hprows9 r hr).mono hm, hp1, by simp only at hlen ⊢; omega, hlb, hsim', hlo, (fun h => by cases h), .inl (by rw [none_app]; exact hdk)⟩
      · have hlo1 := chg_lo (b := false) hlo
        obtain ⟨⟨a1, f1, d1⟩, hc⟩ : ∃ r, chg fuse false = r := ⟨_, rfl⟩
        rw [hc] at hc1 hc2 hlo1
        simp only at hc1 hc2 hlo1
        subst hc1
        subst hc2
        rw [hc] at hA
        dsimp only at hA
        rcases chg_f (f := f1) with hd | ⟨hd1, hd2⟩
        · rw [hd] at hA
          dsimp only at hA
          refine vcC_ok _ _ _ _ _ ?_
          conv => whnf
          refine OOK.call [3, 4] rfl rfl rfl (by kernel_rfl) rfl hA (by decide) rfl ?_
          rintro v_ g10 m_ hg10 (⟨hf, _⟩ | ⟨_, _, rfl, B', d', hpr, rfl⟩ | ⟨_, hf, _⟩)
          · cases hf
          rotate_left
          · cases hf
          conv => whnf
          refine ⟨fun _ => ?_, (by intro q; cases q)⟩
          conv => whnf
          refine OOK.call [6, 5, 1, 2] rfl rfl rfl (by kernel_rfl) rfl (hJ g10 hg10) (by decide) rfl ?_
          rintro v_ g11 m_ hg11 (⟨d2, rfl, ⟨-, ⟨k1, _⟩ | ⟨_, _, _, hsim', hdk⟩⟩, rfl⟩ | ⟨d2, s2', A2, c2, r, rfl, ⟨_, _, k1, _⟩, _⟩)
          · rw [hc] at k1; cases k1
          rotate_left
          · rw [hc] at k1; dsimp only at k1; rw [hd] at k1; cases k1
          conv => whnf
          rw [hc] at hsim'
          have hm := hg10.trans hg11
          have hfo : framesL (([⟨Ab, cb, b⟩] : List Rec).map Rec.l) = frameL b := framesL_one b
          exact ⟨⟨i, h9, f1, true, hs, s, A, c, B', [⟨Ab, cb, b⟩], d', d2, rs, s2, C, e, jb⟩, [0, 1, 2, 3, 4, 5, 6], Sub.of (by decide) rfl ⟨rfl, rfl, rfl, rfl, rfl, rfl, rfl, trivial⟩, hh9'.mono hm, hown, hown2, fun r hr => (hrows9 r hr).mono hm, fun r hr => (hrows29 r hr).mono hm, hsame, hpr.mono hg11, (fun x hx => by obtain rfl := List.mem_singleton.1 hx; exact hrb' _ hm), Nat.le_refl _, (by simp only [List.length_nil] at hlen; show hs.length + 1 ≤ i + 1; omega), (fun x hx => by
            rcases List.mem_append.1 hx with hx | hx
            · exact hlb1 x hx
            · obtain rfl := List.mem_singleton.1 hx; exact hbl), hsim', hlo1, (fun h => by cases h), .inl (by rw [hfo]; exact hdk)⟩
        · have hlo2 := chg_lo (b := false) hlo1
          obtain ⟨⟨a2, f2, dd2⟩, hd⟩ : ∃ r, chg f1 false = r := ⟨_, rfl⟩
          rw [hd] at hd1 hd2 hlo2
          simp only at hd1 hd2 hlo2
          subst hd1
          subst hd2
          rw [hd] at hA
          dsimp only at hA
          refine vcC_ok _ _ _ _ _ ?_
          conv => whnf
          refine OOK.call [3, 4] rfl rfl rfl (by kernel_rfl) rfl hA (by decide) rfl ?_
          rintro v_ g10 m_ hg10 (⟨hf, _⟩ | ⟨_, hf, _⟩ | ⟨_, _, rfl, s', A', c', hO', rfl⟩)
          · cases hf
          · cases hf
          conv => whnf
          refine ⟨(by intro q; cases q), fun _ => ?_⟩
          conv => whnf
          refine OOK.call [6, 5, 1, 2] rfl rfl rfl (by kernel_rfl) rfl (hJ g10 hg10) (by decide) rfl ?_
          rintro v_ g11 m_ hg11 (⟨d2, rfl, ⟨-, ⟨k1, _⟩ | ⟨_, _, k1, _⟩⟩, rfl⟩ | ⟨d2, s2', A2, c2, r, rfl, ⟨_, _, _, _, hsim', hdk⟩, hO2, hrl2, hrr, rfl⟩)
          · rw [hc] at k1; cases k1
          · rw [hc] at k1; dsimp only at k1; rw [hd] at k1; cases k1
          conv => whnf
          rw [hc] at hsim'
          dsimp only at hsim'
          rw [hd] at hsim'
          have hm := hg10.trans hg11
          have hfo : framesL ((hs ++ [⟨Ab, cb, b⟩] : List Rec).map Rec.l) = framesL (hs.map Rec.l) ++ frameL b := by
            rw [List.map_append, framesL_append]
            rw [show (([⟨Ab, cb, b⟩] : List Rec).map Rec.l) = [b] from rfl, framesL_one]
          exact ⟨⟨i, h9, f2, false, hs ++ [⟨Ab, cb, b⟩], s', A', c', B, [], pc, d2, rs ++ [r], s2', A2, c2, jb⟩, [0, 1, 2, 3, 7, 8, 6], Sub.of (by decide) rfl ⟨rfl, rfl, rfl, rfl, rfl, rfl, rfl, trivial⟩, hh9'.mono hm, hO', hO2, (fun x hx => by
            rcases List.mem_append.1 hx with hx | hx
            · exact (hrows9 x hx).mono hm
            · obtain rfl := List.mem_singleton.1 hx; exact hrb' _ hm), (fun x hx => by
            rcases List.mem_append.1 hx with hx | hx
            · exact (hrows29 x hx).mono hm
            · obtain rfl := List.mem_singleton.1 hx; exact hrr), (by show (rs ++ [r]).map Rec.l = (hs ++ [(⟨Ab, cb, b⟩ : Rec)]).map Rec.l; rw [List.map_append, List.map_append, hsame]; show _ ++ [r.l] = _ ++ [b]; rw [hrl2]), hprow9.mono hm, (fun r hr => (hprows9 r hr).mono hm), hp1, (by simp only [List.length_nil] at hlen; show (hs ++ [_]).length + 0 ≤ i + 1; rw [List.length_append]; simp only [List.length_cons, List.length_nil]; omega), (fun x hx => by
            simp only [List.append_nil] at hx
            rcases List.mem_append.1 hx with hx | hx
            · exact hlb1 x hx
            · obtain rfl := List.mem_singleton.1 hx; exact hbl), hsim', hlo2, (fun _ => ⟨rfl, by rw [hfo]; exact hdk⟩), .inl (by rw [none_app, hfo]; exact hdk)⟩
  rintro ⟨i', h, fuse, dead, hs, s, A, c, B, ps, pc, d, rs, s2, C, e, jb⟩ g9 hg9 hI9
  clear hI hI8 hh hown hown2 hrows hrows2 hsame hprow hprows hp1 hlen hlb hsim hlo halive hdisk hrows8 hrows28 hprow8 hprows8 halive8 hdisk8
  have ⟨hh, hown, hown2, hrows, hrows2, hsame, hprow, hprows, hp1, hlen, hlb, hsim, hlo, halive, hdisk⟩ := hI9
  simp only at hh hown hown2 hrows hrows2 hsame hprow hprows hp1 hlen hlb hsim hlo halive hdisk
  dsimp only
  refine COK.seq (COK.draw [1, 3, 6] (by kernel_rfl) (by kernel_rfl) ?_)
  conv => whnf
  refine ⟨(by intro q; cases q), fun _ => ?_⟩
  conv => whnf
  refine OOK.call [3, 4, 6, 5] rfl rfl rfl (by kernel_rfl) rfl (f_agrees g9 sb jb db fuse dead hs rs s s2 A c B ps.length pc C e dead hown hown2 hsame hrows hrows2 (by omega) (fun r hr => by
    have hin : r.l ∈ hs.map Rec.l := by rw [← hsame]; exact List.mem_map_of_mem hr
    obtain ⟨r', hr', he⟩ := List.mem_map.1 hin
    have := hlb r' (List.mem_append_left _ hr')
    rw [← he]
    omega)) (by decide) rfl ?_
  rintro v_ g10 m_ hg10 ⟨rfl, rfl⟩
  conv => whnf
  refine ⟨⟨rfl, rfl, rfl, rfl, rfl, rfl, rfl, trivial⟩, ?_⟩
  conv => whnf
  refine ⟨(by intro q; cases q), fun _ => ?_⟩
  conv => whnf
  refine OOK.call [6] rfl rfl rfl (by kernel_rfl) rfl (f_stopped g10 jb db C rs.length e dead) (by decide) rfl ?_
  rintro v_ g11 m_ hg11 ⟨rfl, rfl⟩
  conv => whnf
  refine ⟨⟨rfl, rfl, rfl, rfl, rfl, rfl, rfl, trivial⟩, ?_⟩
  conv => whnf
  refine ⟨fun q => absurd q (by simp), fun _ => ?_⟩
  conv => whnf
  refine OOK.call [1] rfl rfl rfl (by kernel_rfl) rfl (f_dead g11 db mb d) (by decide) rfl ?_
  rintro v_ g12 m_ hg12 ⟨rfl, rfl⟩
  conv => whnf
  refine ⟨⟨rfl, rfl, rfl, rfl, rfl, rfl, rfl, trivial⟩, ?_⟩
  conv => whnf
  refine COK.cond rfl (fun q => absurd q (by rw [hsim.st]; simp)) (fun _ => ?_)
  refine vcC_ok _ _ _ _ _ ?_
  conv => whnf
  refine vcC_ok _ _ _ _ _ ?_
  conv => whnf
  have hm := (hg10.trans hg11).trans hg12
  have hI12 := hI9.mono hm
  exact ⟨⟨i + 1, h, fuse, dead, hs, s, A, c, B, ps, pc, d, rs, s2, C, e, jb⟩, [0, 1, 2, 3, 4, 5, 6], Sub.of (by decide) rfl ⟨rfl, rfl, rfl, rfl, rfl, int_eq (i64_in (by omega) (by omega)), trivial⟩, ⟨by show ((i + 1 : Nat) : Int) ≤ N; omega, hI12.h, hI12.own, hI12.own2, hI12.rows, hI12.rows2, hI12.same, hI12.prow, hI12.prows, hI12.p1, hI12.len, hI12.lb, hI12.sim, hI12.lo, hI12.alive, hI12.disk⟩, by show (N - ((i + 1 : Nat) : Int)).toNat < (N - (i : Int)).toNat; omega⟩
end Go.Proofs.Ytkkefknmahnjnaa
