/- WholeStores: bytes: clones, equality, the check sum, frames. -/
import Derived.Test.YtkkefknmahnjnaaSData
import Derived.Laws.IdiomStrings
import Derived.Laws.BytesArg
set_option linter.unusedVariables false
set_option linter.unusedSimpArgs false
set_option maxRecDepth 100000
namespace Go.Proofs.Ytkkefknmahnjnaa
open Go Go.SX

/-- What is one's own of a row: nothing where there is no room. -/
def OwnRow (el size : Nat) (A : Option Addr) (n c : Nat) (cs : List Value) (M : Mem) : Prop :=
  (n = 0 ∧ c = 0 ∧ cs = [] ∧ M = []) ∨ ∃ (b : Nat) (rest : List Value), A = some ⟨b, 0, none⟩ ∧ M = [⟨b, .cells (cs ++ rest) el (0, 0)⟩] ∧ cs.length = n * size ∧ (cs ++ rest).length = c * size ∧ n ≤ c
theorem f_clone (g : GH) (A : Option Addr) (c : Nat) (l : List UInt8) (hA : Row g encB A l) (hl : l.length ≤ 100000) :
    Tri Try.prog 23 [.slice A l.length c] g [] fun v g' m' => ∃ A' c', v = .slice A' l.length c' ∧ OwnRow 5 1 A' l.length c' (l.flatMap encB) m' := by
  have hlen := flat_len encB_len l
  refine Tri.vc [.val (.slice A l.length c)] Try.func23 rfl Try.ntmps23 rfl rfl ?_
  cases A with
  | none =>
    have : l = [] := by
      cases l with
      | nil => rfl
      | cons x r => obtain ⟨a, h, _⟩ := hA (by simp); cases h
    subst this
    conv => whnf
    refine ⟨fun _ => ?_, fun q => by cases q⟩
    conv => whnf
    exact .mk ⟨_, [], _, rfl, by decide, rfl, trivial, none, 0, rfl, .inl ⟨rfl, rfl, rfl, rfl⟩⟩
  | some a =>
    conv => whnf
    refine ⟨(by intro q; cases q), fun _ => ?_⟩
    conv => whnf
    intro b
    conv => whnf
    by_cases h0 : l = []
    · subst h0
      refine OOK.appendNone rfl rfl rfl rfl (.inl ⟨_, rfl⟩) rfl (size := 1) (bytes := 1) rfl rfl (Src.nil') ?_
      conv => whnf
      exact .mk ⟨_, [], _, rfl, by decide, rfl, trivial, _, 0, rfl, .inl ⟨rfl, rfl, rfl, rfl⟩⟩
    · obtain ⟨a', ha, hr⟩ := hA h0
      obtain rfl := Option.some.inj ha
      have hpos : 0 < l.length := List.length_pos_iff.2 h0
      refine OOK.appendNew (old := []) (ys := l.flatMap encB) (k := l.length) rfl rfl rfl rfl (.inl ⟨_, rfl⟩) rfl (size := 1) (bytes := 1) rfl rfl rfl (by decide) rfl Src.nil' rfl hlen (by omega) (Src.reads hlen hr) (by omega) ?_
      intro b' c' rest hle hlc
      conv => whnf
      exact .mk ⟨_, [1], _, rfl, by decide, rfl, trivial, some ⟨b', 0, none⟩, c', by rw [Nat.zero_add]; rfl, .inr ⟨b', rest, rfl, rfl, hlen, by simpa using hlc, by omega⟩⟩
/-- A clone that nobody will write again. -/
theorem f_cloneR (g : GH) (A : Option Addr) (c : Nat) (l : List UInt8) (hA : Row g encB A l) (hl : l.length ≤ 100000) :
    Tri Try.prog 23 [.slice A l.length c] g [] fun v g' m' => m' = [] ∧ ∃ A' c', v = .slice A' l.length c' ∧ l.length ≤ c' ∧ Row g' encB A' l := by
  intro w hw
  refine (f_clone g A c l hA hl w hw).mono ?_
  rintro e w' ⟨v, g', m', rfl, ⟨A', c', rfl, hR⟩, hx, hw', hf⟩
  rcases hR with ⟨h1, h2, h3, rfl⟩ | ⟨b, rest, rfl, rfl, h1, h2, h3⟩
  · exact ⟨_, g', [], rfl, ⟨rfl, A', c', rfl, by omega, fun h => absurd (List.length_eq_zero_iff.1 h1) h⟩, .refl _, hw', hf⟩
  · have k1 := hw'.freeze (k := 0) rfl (ob := .cells (l.flatMap encB ++ rest).toArray 5 (0, 0)) rfl
    have k2 := Fr.freeze hw' (k := 0) rfl (ob := .cells (l.flatMap encB ++ rest).toArray 5 (0, 0)) rfl
    refine ⟨_, _, [], rfl, ⟨rfl, some ⟨b, 0, none⟩, c', rfl, h3, row_of (rest := rest) (el := 5) (by simp)⟩, .refl _, k1.sub_ (E := []) (e := []) (M := []) (is := []) ⟨List.nodup_nil, rfl, fun t x hx => by simp [Env.get] at hx⟩, (hf.trans k2).trans (Fr.sub (e := []) (E := []) (is := []) ⟨List.nodup_nil, rfl, fun t x hx => by simp [Env.get] at hx⟩)⟩

theorem OOK.toStr {P : Program} {n : Nat} {o : Oper} {e : Env} {m : Mem} {g : GH} {K : Env → Mem → GH → Prop} {s d el : TypeId} {x : Operand} {A : Option Addr} {c : Nat} {l : List UInt8} (hop : o.op = .convert s d x) (hx : e.va m x = some (.slice A l.length c))
    (hs : P.underlying s = some (.slice el)) (he : P.underlying el = some (.int .u8)) (hd : P.underlying d = some .string) (hr : Row g encB A l) (h : putK n o.dst (.val (.string ⟨l.toArray⟩)) e fun e => K e m g) : OOK P n o e m g K := by
  refine OOK.val rfl (fun a w ha hw => ?_) h
  have hrun : (Go.convert s d (.slice A l.length c)).run P w = .ok (.string ⟨l.toArray⟩) w := by
    cases A with
    | none =>
      have : l = [] := by
        cases l with
        | nil => rfl
        | cons x r => obtain ⟨a, h, _⟩ := hr (by simp); cases h
      subst this
      exact run_convert_bytes_nil w s el hs he 0 c d hd
    | some a =>
      by_cases h0 : l = []
      · subst h0
        exact run_convert_bytes_back w s d el a c [] hs he hd (fun j hj => by simp at hj)
      · obtain ⟨a', ha', hrd⟩ := hr h0
        obtain rfl := Option.some.inj ha'
        refine run_convert_bytes_back w s d el a c l hs he hd (fun j hj => ?_)
        rw [← addN_eq]
        refine hw.cellG (hrd j _ ?_)
        have := flat_get encB_len l j 0 l[j] (.int .u8 (l[j].toNat : Int)) (List.getElem?_eq_getElem hj) rfl
        simpa using this
  simp only [execOp, hop, ha.va hx, Sem.run_bind, hrun, Result.andThen_ok, Sem.run_pure]
theorem f_beq (g : GH) (A B : Option Addr) (c d : Nat) (l r : List UInt8) (hA : Row g encB A l) (hB : Row g encB B r) :
    Tri Try.prog 37 [.slice A l.length c, .slice B r.length d] g [] fun v g' m' => v = .bool (decide (l = r)) ∧ m' = [] := by
  refine Tri.vc [.val (.slice A l.length c), .val (.slice B r.length d)] Try.func37 rfl Try.ntmps37 rfl rfl ?_
  conv => whnf
  refine OOK.toStr rfl rfl rfl rfl rfl hA ?_
  conv => whnf
  refine OOK.toStr rfl rfl rfl rfl rfl hB ?_
  conv => whnf
  refine .mk ⟨_, [], _, rfl, by decide, rfl, trivial, ?_, rfl⟩
  show Value.bool _ = Value.bool _
  rw [bytes_eq]
  congr 1
  simp
/-- The check sum, as the program reckons it. -/
def crcBit (c : Int) : Int := IntKind.u32.wrap ↑(BitVec.ofInt IntKind.u32.bits (c.fdiv (2 ^ min (Int.toNat 1) IntKind.u32.bits)) ^^^ BitVec.ofInt IntKind.u32.bits (IntKind.u32.wrap (3988292384 * IntKind.u32.wrap ↑(BitVec.ofInt IntKind.u32.bits c &&& BitVec.ofInt IntKind.u32.bits 1).toNat))).toNat
def crcBits : Nat → Int → Int
  | 0, c => c
  | k + 1, c => crcBits k (crcBit c)
def crcX (c : Int) (b : UInt8) : Int := IntKind.u32.wrap ↑(BitVec.ofInt IntKind.u32.bits c ^^^ BitVec.ofInt IntKind.u32.bits (IntKind.u32.wrap (b.toNat : Int))).toNat
def crcByte (c : Int) (b : UInt8) : Int := crcBits 8 (crcX c b)
def crcNot (c : Int) : Int := IntKind.u32.wrap ↑(BitVec.ofInt IntKind.u32.bits 4294967295 ^^^ BitVec.ofInt IntKind.u32.bits c).toNat
def crcF (l : List UInt8) : Int := crcNot (l.foldl crcByte 4294967295)
theorem crcF_rng (l : List UInt8) : 0 ≤ crcF l ∧ crcF l < 4294967296 := by
  unfold crcF crcNot
  rw [IntKind.wrap_u32]
  omega
theorem f_crc (g : GH) (A : Option Addr) (c : Nat) (l : List UInt8) (hA : Row g encB A l) (hl : l.length ≤ 100000) :
    Tri Try.prog 54 [.slice A l.length c] g [] fun v g' m' => v = .int .i64 (crcF l) ∧ m' = [] := by
  refine Tri.vc [.val (.slice A l.length c)] Try.func54 rfl Try.ntmps54 rfl rfl ?_
  conv => whnf
  refine COK.loop (α := Nat × Int) (fun x => [(7, .val (.slice A l.length c)), (8, .val (.int .i64 l.length)), (9, .val (.int .i64 x.1)), (3, .val (.int .u32 x.2))]) (fun _ => []) (fun x _ => x.1 ≤ l.length ∧ (l.drop x.1).foldl crcByte x.2 = l.foldl crcByte 4294967295) (fun x => l.length - x.1) (0, 4294967295) [] (Sub.of (by decide) rfl ⟨rfl, rfl, rfl, rfl, trivial⟩) ⟨Nat.zero_le _, rfl⟩ ?_
  rintro x g' hg ⟨hi, hfold⟩
  refine vcC_ok _ _ _ _ _ ?_
  by_cases hlt : x.1 < l.length
  · obtain ⟨y, hy⟩ : ∃ y, l[x.1]? = some y := ⟨_, List.getElem?_eq_getElem hlt⟩
    obtain ⟨a, rfl, hr⟩ := (hA.mono hg).at_ encB_len hy
    conv => whnf
    refine ⟨fun _ => ?_, fun h1 => absurd h1 (by simp [hlt])⟩
    conv => whnf
    refine ⟨⟨by omega, by omega⟩, ?_⟩
    conv => whnf
    refine OOK.yn (YN.load rfl rfl rfl (v := .int .u8 (y.toNat : Int)) (by have := hr 0 _ rfl; rw [addN_add, Nat.add_zero] at this; exact this) ?_)
    conv => whnf
    refine COK.loop (α := Nat × Int) (fun z => [(7, .val (.slice (some a) l.length c)), (8, .val (.int .i64 l.length)), (9, .val (.int .i64 x.1)), (3, .val (.int .u32 z.2)), (17, .val (.int .i64 z.1))]) (fun _ => []) (fun z _ => z.1 ≤ 8 ∧ crcBits (8 - z.1) z.2 = crcByte x.2 y) (fun z => 8 - z.1) (0, crcX x.2 y) [] (Sub.of (by decide) rfl ⟨rfl, rfl, rfl, rfl, rfl, trivial⟩) ⟨Nat.zero_le _, rfl⟩ ?_
    rintro z g2 hg2 ⟨hz, hzf⟩
    refine vcC_ok _ _ _ _ _ ?_
    conv => whnf
    refine ⟨fun h1 => ?_, fun h1 => ?_⟩
    · conv => whnf
      have hz8 : z.1 < 8 := by have := of_decide_eq_true h1; omega
      refine ⟨(z.1 + 1, crcBit z.2), [], Sub.of (by decide) rfl ⟨rfl, rfl, rfl, rfl, int_eq (i64_in (by omega) (by omega)), trivial⟩, ⟨hz8, ?_⟩, by show 8 - (z.1 + 1) < 8 - z.1; omega⟩
      rw [← hzf, show 8 - z.1 = (8 - (z.1 + 1)) + 1 by omega]
      rfl
    · conv => whnf
      have hz8 : z.1 = 8 := by have := of_decide_eq_false h1; omega
      rw [hz8] at hzf
      refine ⟨(x.1 + 1, z.2), [], Sub.of (by decide) rfl ⟨rfl, rfl, int_eq (i64_in (by omega) (by omega)), rfl, trivial⟩, ⟨hlt, ?_⟩, by show l.length - (x.1 + 1) < l.length - x.1; omega⟩
      show (l.drop (x.1 + 1)).foldl crcByte z.2 = _
      rw [← hfold, show z.2 = crcByte x.2 y from hzf]
      obtain ⟨h3, h4⟩ := List.getElem?_eq_some_iff.1 hy
      rw [List.drop_eq_getElem_cons h3, h4]
      rfl
  · conv => whnf
    refine ⟨fun h1 => absurd h1 (by simp [hlt]), fun _ => ?_⟩
    conv => whnf
    have hd : l.drop x.1 = [] := List.drop_eq_nil_of_le (by omega)
    rw [hd] at hfold
    refine OOK.val (s := .val (.int .u32 (crcNot x.2))) (v := .int .u32 (crcNot x.2)) rfl (fun a w ha hw => ?_) ?_
    · simp only [execOp, Sem.run_bind]
      rw [ha.va (x := .tmp 28) (v := .int .u32 x.2) rfl]
      rfl
    conv => whnf
    exact .mk ⟨_, [], _, rfl, by decide, rfl, trivial, by unfold crcF; rw [← hfold]; exact int_eq (i64_in (by have := crcF_rng l; unfold crcF at this; rw [← hfold] at this; exact Int.le_trans (by decide) this.1) (by have := crcF_rng l; unfold crcF at this; rw [← hfold] at this; exact Int.le_trans (Int.le_of_lt this.2) (by decide))), rfl⟩
end Go.Proofs.Ytkkefknmahnjnaa
