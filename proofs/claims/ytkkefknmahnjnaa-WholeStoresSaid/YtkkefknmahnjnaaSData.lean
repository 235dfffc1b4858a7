/- WholeStores: files, disks and journals in memory. -/
import Derived.Test.YtkkefknmahnjnaaSxMap
import Derived.Test.YtkkefknmahnjnaaProg
set_option linter.unusedVariables false
set_option linter.unusedSimpArgs false
set_option maxRecDepth 100000
namespace Go.Proofs.Ytkkefknmahnjnaa
open Go Go.SX

def encB (b : UInt8) : List Value := [.int .u8 (b.toNat : Int)]
theorem encB_len (b : UInt8) : (encB b).length = 1 := rfl
theorem encB_one (b : UInt8) : ∀ v ∈ encB b, v.oneCell' = true := by
  intro v hv
  obtain rfl := List.mem_singleton.1 hv
  rfl
/-- A file. -/
structure Fl where
  A : Option Addr
  c : Nat
  l : List UInt8
  safe : Nat
def Fl.cells (f : Fl) : List Value := [.slice f.A f.l.length f.c, .int .i64 f.safe]
def Fl.val (f : Fl) : Value := .agg #[.slice f.A f.l.length f.c, .int .i64 f.safe]
def Fl.none : Fl := ⟨Option.none, 0, [], 0⟩
structure FE where
  k : ByteArray
  f : Fl
  n : Nat
def FE.ent (e : FE) : MapEntry := ⟨.string e.k, e.f.val, e.n⟩
def getF (s : ByteArray) : List FE → Option Fl
  | [] => .none
  | e :: r => match s == e.k with
    | true => some e.f
    | false => getF s r
def putF (s : ByteArray) (f : Fl) (clock : Nat) : List FE → List FE
  | [] => [⟨s, f, clock⟩]
  | e :: r => match s == e.k with
    | true => { e with f := f } :: r
    | false => e :: putF s f clock r
def delF (s : ByteArray) : List FE → List FE
  | [] => []
  | e :: r => match s == e.k with
    | true => r
    | false => e :: delF s r
theorem strKeys (fs : List FE) : StrKeys (fs.map FE.ent) := fun e he => by
  obtain ⟨x, _, rfl⟩ := List.mem_map.1 he
  exact ⟨_, rfl⟩
theorem find_get (s : ByteArray) : ∀ (fs : List FE) (i : Nat), (findE s (fs.map FE.ent) i).map (·.2) = (getF s fs).map Fl.val
  | [], _ => rfl
  | e :: r, i => by
    simp only [List.map_cons, findE, getF, FE.ent]
    cases s == e.k with
    | true => rfl
    | false => exact find_get s r (i + 1)
theorem find_some (s : ByteArray) (fs : List FE) (i : Nat) : (findE s (fs.map FE.ent) i).isSome = (getF s fs).isSome := by
  have := congrArg Option.isSome (find_get s fs i)
  simpa using this
theorem put_ent (s : ByteArray) (f : Fl) (clock : Nat) : ∀ (fs : List FE), putE s f.val clock (fs.map FE.ent) = (putF s f clock fs).map FE.ent
  | [] => rfl
  | e :: r => by
    simp only [List.map_cons, putE, putF, FE.ent]
    cases s == e.k with
    | true => rfl
    | false =>
      exact congrArg _ (put_ent s f clock r)
theorem del_ent (s : ByteArray) : ∀ (fs : List FE), delE s (fs.map FE.ent) = (delF s fs).map FE.ent
  | [] => rfl
  | e :: r => by
    simp only [List.map_cons, delE, delF, FE.ent]
    cases s == e.k with
    | true => rfl
    | false =>
      exact congrArg _ (del_ent s r)

/-- What a disk holds. -/
structure Dk where
  fs : List FE
  clock : Nat
  stopped : Bool
  fused : Bool
  fuse : Int
def dBox (db mb : Nat) (d : Dk) : Slot := ⟨db, .cells [.bool true, .int .i64 4194304, .map (some mb), .bool d.stopped, .bool d.fused, .int .i64 d.fuse] 49 (0, 0)⟩
def mBox (mb : Nat) (d : Dk) : Slot := ⟨mb, .obj (.map (d.fs.map FE.ent).toArray d.clock)⟩
/-- A journal. -/
def jBox (jb db : Nat) (A : Option Addr) (n c : Nat) (stopped : Bool) : Slot := ⟨jb, .cells [.pointer (some ⟨db, 0, none⟩), .string ⟨#[108, 111, 103]⟩, .slice A n c, .bool stopped] 65 (0, 0)⟩
/-- The list beside it. -/
def sBox (sb : Nat) (fuse : Int) (dead : Bool) (A : Option Addr) (n c : Nat) (B : Option Addr) (k d : Nat) : Slot := ⟨sb, .cells [.int .i64 fuse, .bool dead, .slice A n c, .slice B k d] 32 (0, 0)⟩

theorem f_ok (g : GH) (db mb : Nat) (d : Dk) : Tri Try.prog 22 [.pointer (some ⟨db, 0, none⟩)] g [dBox db mb d] fun v g' m' => v = .bool true ∧ m' = [dBox db mb d] := by
  refine Tri.vc [.own 0 0] Try.func22 rfl Try.ntmps22 rfl rfl ?_
  conv => whnf
  refine ⟨fun _ => ?_, (by intro q; cases q)⟩
  conv => whnf
  exact .mk ⟨_, [0], _, rfl, by decide, rfl, ⟨rfl, trivial⟩, rfl, rfl⟩
theorem f_working (g : GH) (db mb : Nat) (d : Dk) : Tri Try.prog 24 [.pointer (some ⟨db, 0, none⟩)] g [dBox db mb d] fun v g' m' => v = .int .i64 (if d.stopped then 28 else 0) ∧ m' = [dBox db mb d] := by
  refine Tri.vc [.own 0 0] Try.func24 rfl Try.ntmps24 rfl rfl ?_
  conv => whnf
  refine OOK.call [0] rfl rfl rfl (by kernel_rfl) rfl (f_ok g db mb d) (by decide) rfl ?_
  rintro v_ g1 m_ hg1 ⟨rfl, rfl⟩
  conv => whnf
  refine ⟨(by intro q; cases q), fun _ => ?_⟩
  conv => whnf
  refine ⟨fun q => ?_, fun q => ?_⟩
  · conv => whnf
    exact .mk ⟨_, [0], _, rfl, by decide, rfl, ⟨rfl, trivial⟩, by rw [show d.stopped = true from q]; rfl, rfl⟩
  · conv => whnf
    exact .mk ⟨_, [0], _, rfl, by decide, rfl, ⟨rfl, trivial⟩, by rw [show d.stopped = false from q]; rfl, rfl⟩
theorem f_dead (g : GH) (db mb : Nat) (d : Dk) : Tri Try.prog 17 [.pointer (some ⟨db, 0, none⟩)] g [dBox db mb d] fun v g' m' => v = .bool d.stopped ∧ m' = [dBox db mb d] := by
  refine Tri.vc [.own 0 0] Try.func17 rfl Try.ntmps17 rfl rfl ?_
  conv => whnf
  refine OOK.call [0] rfl rfl rfl (by kernel_rfl) rfl (f_ok g db mb d) (by decide) rfl ?_
  rintro v_ g1 m_ hg1 ⟨rfl, rfl⟩
  conv => whnf
  refine ⟨fun _ => ?_, (by intro q; cases q)⟩
  conv => whnf
  exact .mk ⟨_, [0], _, rfl, by decide, rfl, ⟨rfl, trivial⟩, rfl, rfl⟩
theorem f_nothing (g : GH) (jb db : Nat) (A : Option Addr) (n c : Nat) (st : Bool) : Tri Try.prog 26 [.pointer (some ⟨jb, 0, none⟩)] g [jBox jb db A n c st] fun v g' m' => v = .bool false ∧ m' = [jBox jb db A n c st] := by
  refine Tri.vc [.own 0 0] Try.func26 rfl Try.ntmps26 rfl rfl ?_
  conv => whnf
  refine ⟨(by intro q; cases q), fun _ => ?_⟩
  conv => whnf
  exact .mk ⟨_, [0], _, rfl, by decide, rfl, ⟨rfl, trivial⟩, rfl, rfl⟩
theorem f_stopped (g : GH) (jb db : Nat) (A : Option Addr) (n c : Nat) (st : Bool) : Tri Try.prog 16 [.pointer (some ⟨jb, 0, none⟩)] g [jBox jb db A n c st] fun v g' m' => v = .bool st ∧ m' = [jBox jb db A n c st] := by
  refine Tri.vc [.own 0 0] Try.func16 rfl Try.ntmps16 rfl rfl ?_
  conv => whnf
  refine OOK.call [0] rfl rfl rfl (by kernel_rfl) rfl (f_nothing g jb db A n c st) (by decide) rfl ?_
  rintro v_ g1 m_ hg1 ⟨rfl, rfl⟩
  conv => whnf
  refine ⟨fun _ => ?_, (by intro q; cases q)⟩
  conv => whnf
  exact .mk ⟨_, [0], _, rfl, by decide, rfl, ⟨rfl, trivial⟩, rfl, rfl⟩
theorem f_jlen (g : GH) (jb db : Nat) (A : Option Addr) (n c : Nat) (st : Bool) : Tri Try.prog 34 [.pointer (some ⟨jb, 0, none⟩)] g [jBox jb db A n c st] fun v g' m' => v = .int .i64 n ∧ m' = [jBox jb db A n c st] := by
  refine Tri.vc [.own 0 0] Try.func34 rfl Try.ntmps34 rfl rfl ?_
  conv => whnf
  refine OOK.call [0] rfl rfl rfl (by kernel_rfl) rfl (f_nothing g jb db A n c st) (by decide) rfl ?_
  rintro v_ g1 m_ hg1 ⟨rfl, rfl⟩
  conv => whnf
  refine ⟨(by intro q; cases q), fun _ => ?_⟩
  conv => whnf
  exact .mk ⟨_, [0], _, rfl, by decide, rfl, ⟨rfl, trivial⟩, rfl, rfl⟩
theorem f_fuse (g : GH) (db mb : Nat) (d : Dk) (k : Int) (hk : 0 ≤ k) (hd : d.stopped = false) : Tri Try.prog 10 [.pointer (some ⟨db, 0, none⟩), .int .i64 k] g [dBox db mb d] fun v g' m' => v = .int .i64 0 ∧ m' = [dBox db mb { d with fused := true, fuse := k }] := by
  refine Tri.vc [.own 0 0, .val (.int .i64 k)] Try.func10 rfl Try.ntmps10 rfl rfl ?_
  conv => whnf
  refine OOK.call [0] rfl rfl rfl (by kernel_rfl) rfl (f_working g db mb d) (by decide) rfl ?_
  rintro v_ g1 m_ hg1 ⟨rfl, rfl⟩
  conv => whnf
  refine ⟨fun q => absurd q (by rw [hd]; decide), fun _ => ?_⟩
  conv => whnf
  refine ⟨fun q => absurd (of_decide_eq_true q) (by omega), fun _ => ?_⟩
  conv => whnf
  exact .mk ⟨_, [0], _, rfl, by decide, rfl, ⟨rfl, trivial⟩, rfl, rfl⟩
theorem f_new (g : GH) : Tri Try.prog 5 [.int .i64 4194304] g [] fun v g' m' => ∃ db mb, v = .tuple #[.pointer (some ⟨db, 0, none⟩), .int .i64 0] ∧ m' = [dBox db mb ⟨[], 0, false, false, 0⟩, mBox mb ⟨[], 0, false, false, 0⟩] := by
  refine Tri.vc [.val (.int .i64 4194304)] Try.func5 rfl Try.ntmps5 rfl rfl ?_
  conv => whnf
  refine ⟨fun q => absurd q (by decide), fun _ => ?_⟩
  conv => whnf
  refine ⟨fun q => absurd q (by decide), fun _ => ?_⟩
  conv => whnf
  refine OOK.makeMap rfl ?_
  intro mb
  conv => whnf
  intro db
  conv => whnf
  exact .mk ⟨_, [1, 0], _, rfl, by decide, rfl, trivial, db, mb, rfl, rfl⟩
end Go.Proofs.Ytkkefknmahnjnaa
