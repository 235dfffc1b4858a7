/- WholeStores: steps of changes. -/
import Derived.Test.YtkkefknmahnjnaaSCrash
set_option linter.unusedVariables false
set_option linter.unusedSimpArgs false
set_option maxRecDepth 100000
namespace Go.Proofs.Ytkkefknmahnjnaa
open Go Go.SX

abbrev Clo := FuncId × Array Value
def encC (c : Clo) : List Value := [.func (.func c.1) #[] c.2]
theorem encC_len (c : Clo) : (encC c).length = 1 := rfl
theorem encC_one (c : Clo) : ∀ v ∈ encC c, v.oneCell' = true := by
  intro v hv
  obtain rfl := List.mem_singleton.1 hv
  rfl
theorem f_steps {σ : Type} (g : GH) (A : Option Addr) (c : Nat) (cl : List Clo) (M : σ → Mem) (Pc : Nat → σ → GH → Prop) (Q : Int → σ → GH → Prop) (s0 : σ) (hrow : Row g encC A cl) (hl : cl.length ≤ 1000) (hM : ∀ s, extL (M s0) (M s)) (hlen : ∀ s, (M s).length = (M s0).length)
    (h : ∀ i s g1 (f : FuncId) (cap : Array Value), g.le g1 → Pc i s g1 → cl[i]? = some (f, cap) → calleeOk Try.prog f = true ∧ Tri Try.prog f cap.toList g1 (M s) fun v g' m' => ∃ cd s', v = .int .i64 cd ∧ m' = M s' ∧ ((cd = 0 ∧ Pc (i + 1) s' g') ∨ (cd ≠ 0 ∧ Q cd s' g')))
    (h0 : Pc 0 s0 g) :
    Tri Try.prog 46 [.slice A cl.length c] g (M s0) fun v g' m' => ∃ cd s', v = .int .i64 cd ∧ m' = M s' ∧ ((cd = 0 ∧ Pc cl.length s' g') ∨ (cd ≠ 0 ∧ Q cd s' g')) := by
  refine Tri.vc [.val (.slice A cl.length c)] Try.func46 rfl Try.ntmps46 rfl rfl ?_
  conv => whnf
  refine COK.loop (α := Nat × σ) (fun x => [(6, .val (.slice A cl.length c)), (7, .val (.int .i64 cl.length)), (8, .val (.int .i64 x.1))]) (fun x => M x.2) (fun x g => x.1 ≤ cl.length ∧ Pc x.1 x.2 g) (fun x => cl.length - x.1) (0, s0) (List.range (M s0).length) (Sub.of List.nodup_range (pick_range _) ⟨rfl, rfl, rfl, trivial⟩) ⟨Nat.zero_le _, h0⟩ ?_
  rintro ⟨i, s⟩ g1 hg1 ⟨hi, hP⟩
  simp only at hi hP
  refine vcC_ok _ _ _ _ _ ?_
  by_cases hlt : i < cl.length
  · obtain ⟨⟨f, cap⟩, hx⟩ : ∃ x, cl[i]? = some x := ⟨_, List.getElem?_eq_getElem hlt⟩
    obtain ⟨a, rfl, hr⟩ := (hrow.mono hg1).at_ encC_len hx
    obtain ⟨hok, hT⟩ := h i s g1 f cap hg1 hP hx
    conv => whnf
    refine ⟨fun _ => ?_, fun h1 => absurd (of_decide_eq_false h1) (by show ¬ ¬ ((i : Int) < (cl.length : Int)); omega)⟩
    conv => whnf
    refine ⟨⟨by omega, by show (i : Int) < _; omega⟩, ?_⟩
    conv => whnf
    refine OOK.yn (YN.load rfl rfl rfl (v := .func (.func f) #[] cap) (by have := hr 0 _ rfl; rw [addN_add, Nat.add_zero] at this; exact this) ?_)
    conv => whnf
    refine OOK.callAll rfl rfl rfl hok (by simp) hT ?_
    rintro v g2 m2 hg2 ⟨cd, s', rfl, rfl, hc⟩
    conv => whnf
    rcases hc with ⟨rfl, hP'⟩ | ⟨hne, hQ⟩
    · refine ⟨fun q => absurd q (by decide), fun _ => ?_⟩
      conv => whnf
      exact ⟨(i + 1, s'), List.range (M s').length, Sub.of List.nodup_range (pick_range _) ⟨rfl, rfl, int_eq (i64_in (by show (-9223372036854775808 : Int) ≤ (i : Int) + 1; omega) (by show (i : Int) + 1 ≤ 9223372036854775807; omega)), trivial⟩, ⟨hlt, hP'⟩, by show cl.length - (i + 1) < cl.length - i; omega⟩
    · refine ⟨fun _ => ?_, fun q => absurd q (by simpa using hne)⟩
      conv => whnf
      exact .mk ⟨_, List.range (M s').length, _, rfl, List.nodup_range, pick_range _, hM s', cd, s', rfl, rfl, .inr ⟨hne, hQ⟩⟩
  · have hid : i = cl.length := by omega
    conv => whnf
    refine ⟨fun h1 => absurd (of_decide_eq_true h1) (by show ¬ ((i : Int) < (cl.length : Int)); omega), fun _ => ?_⟩
    conv => whnf
    subst hid
    exact .mk ⟨_, List.range (M s).length, _, rfl, List.nodup_range, pick_range _, hM s, 0, s, rfl, rfl, .inl ⟨rfl, hP⟩⟩

def M3 (x : Slot) (db mb : Nat) (d : Dk) : Mem := [x, dBox db mb d, mBox mb d]
/-- What a change ends in, one more slot beside it. -/
def Out3 (x : Slot) (db mb : Nat) (d : Dk) (Post : Dk → GH → Prop) (v : Value) (g' : GH) (m' : Mem) : Prop :=
  (d.fused = true ∧ d.fuse = 0 ∧ v = .int .i64 28 ∧ m' = M3 x db mb { d with stopped := true }) ∨
  ((d.fused = true → d.fuse ≠ 0) ∧ v = .int .i64 0 ∧ ∃ d2 : Dk, d2.stopped = d.stopped ∧ d2.fused = d.fused ∧ d2.fuse = (if d.fused then d.fuse - 1 else d.fuse) ∧ Post d2 g' ∧ m' = M3 x db mb d2)
theorem newName : kLog ++ ⟨#[46, 110, 101, 119]⟩ = kNew := by decide
theorem f_o1 (g : GH) (x : Slot) (db mb bx bn : Nat) (d : Dk) (hx : Bx g bx (.pointer (some ⟨db, 0, none⟩))) (hn : Bx g bn (.string kLog)) (f : Fl) (hf : getF kNew d.fs = some f) (hz : Fz d) (hd : d.stopped = false) :
    Tri Try.prog 42 [.pointer (some ⟨bx, 0, none⟩), .pointer (some ⟨bn, 0, none⟩)] g (M3 x db mb d) (Out3 x db mb d (fun d2 g' => d2.fs = delF kNew d.fs ∧ d2.clock = d.clock)) := by
  refine Tri.vc [.val (.pointer (some ⟨bx, 0, none⟩)), .val (.pointer (some ⟨bn, 0, none⟩))] Try.func42 rfl Try.ntmps42 rfl rfl ?_
  conv => whnf
  refine OOK.yn (YN.load rfl rfl rfl hx.cell ?_)
  conv => whnf
  refine OOK.yn (YN.load rfl rfl rfl hn.cell ?_)
  conv => whnf
  refine ⟨by decide, ?_⟩
  rw [newName]
  conv => whnf
  refine OOK.call [1, 2] rfl rfl rfl (by kernel_rfl) rfl (f_remove g db mb d kNew f hf hz ok_new hd) (by decide) rfl ?_
  rintro v_ g9 m_ hg9 (⟨k1, k2, rfl, rfl⟩ | ⟨k1, rfl, d2, k2, k3, k4, k5, rfl⟩)
  · conv => whnf
    exact .mk ⟨_, [0, 1, 2], _, rfl, by decide, rfl, ⟨rfl, rfl, rfl, trivial⟩, .inl ⟨k1, k2, rfl, rfl⟩⟩
  · conv => whnf
    exact .mk ⟨_, [0, 1, 2], _, rfl, by decide, rfl, ⟨rfl, rfl, rfl, trivial⟩, .inr ⟨k1, rfl, d2, k2, k3, k4, k5, rfl⟩⟩
theorem f_o2 (g : GH) (x : Slot) (db mb bx bn : Nat) (d : Dk) (hx : Bx g bx (.pointer (some ⟨db, 0, none⟩))) (hn : Bx g bn (.string kLog)) (h : Fok g d) (hz : Fz d) (hd : d.stopped = false) :
    Tri Try.prog 44 [.pointer (some ⟨bx, 0, none⟩), .pointer (some ⟨bn, 0, none⟩)] g (M3 x db mb d) (Out3 x db mb d (fun d2 g' => ∃ A' c', Row g' encB A' ((oldF kLog d).l ++ []) ∧ ((oldF kLog d).l ++ []).length ≤ c' ∧ d2.fs = (d.put kLog ⟨A', c', (oldF kLog d).l ++ [], (oldF kLog d).safe⟩).fs ∧ d2.clock = (d.put kLog ⟨A', c', (oldF kLog d).l ++ [], (oldF kLog d).safe⟩).clock)) := by
  refine Tri.vc [.val (.pointer (some ⟨bx, 0, none⟩)), .val (.pointer (some ⟨bn, 0, none⟩))] Try.func44 rfl Try.ntmps44 rfl rfl ?_
  conv => whnf
  refine OOK.yn (YN.load rfl rfl rfl hx.cell ?_)
  conv => whnf
  refine OOK.yn (YN.load rfl rfl rfl hn.cell ?_)
  conv => whnf
  refine OOK.call [1, 2] rfl rfl rfl (by kernel_rfl) rfl (f_append g db mb d kLog none 0 [] h hz (fun h => absurd rfl h) (by decide) ok_log hd) (by decide) rfl ?_
  rintro v_ g9 m_ hg9 (⟨k1, k2, rfl, rfl⟩ | ⟨k1, rfl, d2, k2, k3, k4, k5, rfl⟩)
  · conv => whnf
    exact .mk ⟨_, [0, 1, 2], _, rfl, by decide, rfl, ⟨rfl, rfl, rfl, trivial⟩, .inl ⟨k1, k2, rfl, rfl⟩⟩
  · conv => whnf
    exact .mk ⟨_, [0, 1, 2], _, rfl, by decide, rfl, ⟨rfl, rfl, rfl, trivial⟩, .inr ⟨k1, rfl, d2, k2, k3, k4, k5, rfl⟩⟩
theorem f_o3 (g : GH) (x : Slot) (db mb bx bn : Nat) (d : Dk) (hx : Bx g bx (.pointer (some ⟨db, 0, none⟩))) (hn : Bx g bn (.string kLog)) (f : Fl) (hf : getF kLog d.fs = some f) (hz : Fz d) (hd : d.stopped = false) :
    Tri Try.prog 45 [.pointer (some ⟨bx, 0, none⟩), .pointer (some ⟨bn, 0, none⟩)] g (M3 x db mb d) (Out3 x db mb d (fun d2 g' => d2.fs = (d.put kLog ⟨f.A, f.c, f.l, f.l.length⟩).fs ∧ d2.clock = (d.put kLog ⟨f.A, f.c, f.l, f.l.length⟩).clock)) := by
  refine Tri.vc [.val (.pointer (some ⟨bx, 0, none⟩)), .val (.pointer (some ⟨bn, 0, none⟩))] Try.func45 rfl Try.ntmps45 rfl rfl ?_
  conv => whnf
  refine OOK.yn (YN.load rfl rfl rfl hx.cell ?_)
  conv => whnf
  refine OOK.yn (YN.load rfl rfl rfl hn.cell ?_)
  conv => whnf
  refine OOK.call [1, 2] rfl rfl rfl (by kernel_rfl) rfl (f_sync g db mb d kLog f hf hz ok_log hd) (by decide) rfl ?_
  rintro v_ g9 m_ hg9 (⟨k1, k2, rfl, rfl⟩ | ⟨k1, rfl, d2, k2, k3, k4, k5, rfl⟩)
  · conv => whnf
    exact .mk ⟨_, [0, 1, 2], _, rfl, by decide, rfl, ⟨rfl, rfl, rfl, trivial⟩, .inl ⟨k1, k2, rfl, rfl⟩⟩
  · conv => whnf
    exact .mk ⟨_, [0, 1, 2], _, rfl, by decide, rfl, ⟨rfl, rfl, rfl, trivial⟩, .inr ⟨k1, rfl, d2, k2, k3, k4, k5, rfl⟩⟩
theorem f_r1 (g : GH) (x : Slot) (db mb bx bo bb : Nat) (d : Dk) (hx : Bx g bx (.pointer (some ⟨db, 0, none⟩))) (ho : Bx g bo (.string kNew)) (B : Option Addr) (c : Nat) (b : List UInt8) (hb : Bx g bb (.slice B b.length c)) (hB : Row g encB B b) (hbl : b.length ≤ 20000) (h : Fok g d) (hz : Fz d) (hd : d.stopped = false) :
    Tri Try.prog 49 [.pointer (some ⟨bx, 0, none⟩), .pointer (some ⟨bo, 0, none⟩), .pointer (some ⟨bb, 0, none⟩)] g (M3 x db mb d) (Out3 x db mb d (fun d2 g' => ∃ A' c', Row g' encB A' ((oldF kNew d).l ++ b) ∧ ((oldF kNew d).l ++ b).length ≤ c' ∧ d2.fs = (d.put kNew ⟨A', c', (oldF kNew d).l ++ b, (oldF kNew d).safe⟩).fs ∧ d2.clock = (d.put kNew ⟨A', c', (oldF kNew d).l ++ b, (oldF kNew d).safe⟩).clock)) := by
  refine Tri.vc [.val (.pointer (some ⟨bx, 0, none⟩)), .val (.pointer (some ⟨bo, 0, none⟩)), .val (.pointer (some ⟨bb, 0, none⟩))] Try.func49 rfl Try.ntmps49 rfl rfl ?_
  conv => whnf
  refine OOK.yn (YN.load rfl rfl rfl hx.cell ?_)
  conv => whnf
  refine OOK.yn (YN.load rfl rfl rfl ho.cell ?_)
  conv => whnf
  refine OOK.yn (YN.load rfl rfl rfl hb.cell ?_)
  conv => whnf
  refine OOK.call [1, 2] rfl rfl rfl (by kernel_rfl) rfl (f_append g db mb d kNew B c b h hz hB hbl ok_new hd) (by decide) rfl ?_
  rintro v_ g9 m_ hg9 (⟨k1, k2, rfl, rfl⟩ | ⟨k1, rfl, d2, k2, k3, k4, k5, rfl⟩)
  · conv => whnf
    exact .mk ⟨_, [0, 1, 2], _, rfl, by decide, rfl, ⟨rfl, rfl, rfl, trivial⟩, .inl ⟨k1, k2, rfl, rfl⟩⟩
  · conv => whnf
    exact .mk ⟨_, [0, 1, 2], _, rfl, by decide, rfl, ⟨rfl, rfl, rfl, trivial⟩, .inr ⟨k1, rfl, d2, k2, k3, k4, k5, rfl⟩⟩
theorem f_r2 (g : GH) (x : Slot) (db mb bx bo : Nat) (d : Dk) (hx : Bx g bx (.pointer (some ⟨db, 0, none⟩))) (ho : Bx g bo (.string kNew)) (f : Fl) (hf : getF kNew d.fs = some f) (hz : Fz d) (hd : d.stopped = false) :
    Tri Try.prog 50 [.pointer (some ⟨bx, 0, none⟩), .pointer (some ⟨bo, 0, none⟩)] g (M3 x db mb d) (Out3 x db mb d (fun d2 g' => d2.fs = (d.put kNew ⟨f.A, f.c, f.l, f.l.length⟩).fs ∧ d2.clock = (d.put kNew ⟨f.A, f.c, f.l, f.l.length⟩).clock)) := by
  refine Tri.vc [.val (.pointer (some ⟨bx, 0, none⟩)), .val (.pointer (some ⟨bo, 0, none⟩))] Try.func50 rfl Try.ntmps50 rfl rfl ?_
  conv => whnf
  refine OOK.yn (YN.load rfl rfl rfl hx.cell ?_)
  conv => whnf
  refine OOK.yn (YN.load rfl rfl rfl ho.cell ?_)
  conv => whnf
  refine OOK.call [1, 2] rfl rfl rfl (by kernel_rfl) rfl (f_sync g db mb d kNew f hf hz ok_new hd) (by decide) rfl ?_
  rintro v_ g9 m_ hg9 (⟨k1, k2, rfl, rfl⟩ | ⟨k1, rfl, d2, k2, k3, k4, k5, rfl⟩)
  · conv => whnf
    exact .mk ⟨_, [0, 1, 2], _, rfl, by decide, rfl, ⟨rfl, rfl, rfl, trivial⟩, .inl ⟨k1, k2, rfl, rfl⟩⟩
  · conv => whnf
    exact .mk ⟨_, [0, 1, 2], _, rfl, by decide, rfl, ⟨rfl, rfl, rfl, trivial⟩, .inr ⟨k1, rfl, d2, k2, k3, k4, k5, rfl⟩⟩
theorem f_r3 (g : GH) (x : Slot) (db mb bx bo bn : Nat) (d : Dk) (hx : Bx g bx (.pointer (some ⟨db, 0, none⟩))) (ho : Bx g bo (.string kNew)) (hn : Bx g bn (.string kLog)) (f : Fl) (hf : getF kNew d.fs = some f) (hz : Fz d) (hd : d.stopped = false) :
    Tri Try.prog 51 [.pointer (some ⟨bx, 0, none⟩), .pointer (some ⟨bo, 0, none⟩), .pointer (some ⟨bn, 0, none⟩)] g (M3 x db mb d) (Out3 x db mb d (fun d2 g' => d2.fs = (({ d with fs := delF kNew d.fs } : Dk).put kLog f).fs ∧ d2.clock = (({ d with fs := delF kNew d.fs } : Dk).put kLog f).clock)) := by
  refine Tri.vc [.val (.pointer (some ⟨bx, 0, none⟩)), .val (.pointer (some ⟨bo, 0, none⟩)), .val (.pointer (some ⟨bn, 0, none⟩))] Try.func51 rfl Try.ntmps51 rfl rfl ?_
  conv => whnf
  refine OOK.yn (YN.load rfl rfl rfl hx.cell ?_)
  conv => whnf
  refine OOK.yn (YN.load rfl rfl rfl ho.cell ?_)
  conv => whnf
  refine OOK.yn (YN.load rfl rfl rfl hn.cell ?_)
  conv => whnf
  refine OOK.call [1, 2] rfl rfl rfl (by kernel_rfl) rfl (f_rename g db mb d kNew kLog f hf hz ok_new ok_log hd) (by decide) rfl ?_
  rintro v_ g9 m_ hg9 (⟨k1, k2, rfl, rfl⟩ | ⟨k1, rfl, d2, k2, k3, k4, k5, rfl⟩)
  · conv => whnf
    exact .mk ⟨_, [0, 1, 2], _, rfl, by decide, rfl, ⟨rfl, rfl, rfl, trivial⟩, .inl ⟨k1, k2, rfl, rfl⟩⟩
  · conv => whnf
    exact .mk ⟨_, [0, 1, 2], _, rfl, by decide, rfl, ⟨rfl, rfl, rfl, trivial⟩, .inr ⟨k1, rfl, d2, k2, k3, k4, k5, rfl⟩⟩
end Go.Proofs.Ytkkefknmahnjnaa
