/- WholeTexts: values: plain, and in memory. -/
import Derived.Test.YthkfnmmbjoadbaaGreatDoorPxMore
import Derived.Test.YthkfnmmbjoadbaaGreatDoorPHand
import Derived.Lib.Bytealg
import Derived.Sort.Walk0
import Derived.Laws.IdiomStrings
import Derived.Laws.BytesArg
set_option linter.unusedVariables false
set_option linter.unusedSimpArgs false
set_option maxRecDepth 100000
namespace Go.Proofs.YthkfnmmbjoadbaaGreatDoor
open Go Go.SX

def encS (s : ByteArray) : List Value := [.string s]
theorem encS_len (s : ByteArray) : (encS s).length = 1 := rfl
theorem encS_one (s : ByteArray) : ∀ v ∈ encS s, v.oneCell' = true := by
  intro v hv
  obtain rfl := List.mem_singleton.1 hv
  rfl
def encB (b : UInt8) : List Value := [.int .u8 (b.toNat : Int)]
theorem encB_len (b : UInt8) : (encB b).length = 1 := rfl
theorem encB_one (b : UInt8) : ∀ v ∈ encB b, v.oneCell' = true := by
  intro v hv
  obtain rfl := List.mem_singleton.1 hv
  rfl
/-- A string of bytes. -/
def str (l : List UInt8) : ByteArray := ⟨l.toArray⟩
theorem str_app (a b : List UInt8) : str a ++ str b = str (a ++ b) := by
  apply ByteArray.ext
  rw [ByteArray.data_append]
  simp [str]
theorem str_size (l : List UInt8) : (str l).size = l.length := by show l.toArray.size = _; simp
theorem str_inj {a b : List UInt8} (h : str a = str b) : a = b := by
  have := congrArg ByteArray.data h
  simpa [str] using this
theorem _root_.Go.SX.Reads.at0 {g : GH} {a : Addr} {v : Value} {r : List Value} (h : Reads g a (v :: r)) : cellG g a = some v := by
  have := h 0 _ rfl
  rw [addN_eq] at this
  simpa [Addr.add] using this
/-- A payload, plain. -/
inductive T where
  | mk (kind int : Int) (text : List UInt8) (items : List T) (keys : List (List UInt8))
theorem T.ind {p : T → Prop} (h : ∀ kind int text items keys, (∀ x ∈ items, p x) → p (.mk kind int text items keys)) (t : T) : p t :=
  T.rec (motive_1 := p) (motive_2 := fun l => ∀ x ∈ l, p x) (fun kind int text items keys ih => h kind int text items keys ih) (fun x hx => by simp at hx) (fun a r ha hr x hx => by
    rcases List.mem_cons.1 hx with rfl | hx
    · exact ha
    · exact hr x hx) t
def T.kind : T → Int | .mk k _ _ _ _ => k
def T.int : T → Int | .mk _ k _ _ _ => k
def T.text : T → List UInt8 | .mk _ _ k _ _ => k
def T.items : T → List T | .mk _ _ _ k _ => k
def T.keys : T → List (List UInt8) | .mk _ _ _ _ k => k
def T.null : T := .mk 0 0 [] [] []
/-- A payload in memory. -/
inductive Val where
  | mk (kind int : Int) (text : List UInt8) (items : List Val) (iA : Option Addr) (ic : Nat) (keys : List (List UInt8)) (kA : Option Addr) (kc : Nat)
theorem Val.ind {p : Val → Prop} (h : ∀ kind int text items iA ic keys kA kc, (∀ x ∈ items, p x) → p (.mk kind int text items iA ic keys kA kc)) (t : Val) : p t :=
  Val.rec (motive_1 := p) (motive_2 := fun l => ∀ x ∈ l, p x) (fun kind int text items iA ic keys kA kc ih => h kind int text items iA ic keys kA kc ih) (fun x hx => by simp at hx) (fun a r ha hr x hx => by
    rcases List.mem_cons.1 hx with rfl | hx
    · exact ha
    · exact hr x hx) t
def encK (s : List UInt8) : List Value := [.string (str s)]
theorem encK_len (s : List UInt8) : (encK s).length = 1 := rfl
theorem encK_one (s : List UInt8) : ∀ v ∈ encK s, v.oneCell' = true := by
  intro v hv
  obtain rfl := List.mem_singleton.1 hv
  rfl
def Val.cells : Val → List Value
  | .mk kind int text items iA ic keys kA kc => [.int .i64 kind, .int .i64 int, .string (str text), .slice iA items.length ic, .slice kA keys.length kc]
theorem Val.len (v : Val) : v.cells.length = 5 := by cases v; rfl
theorem Val.one (v : Val) : ∀ x ∈ v.cells, x.oneCell' = true := by
  cases v
  intro x hx
  simp only [Val.cells, List.mem_cons, List.not_mem_nil, or_false] at hx
  rcases hx with rfl | rfl | rfl | rfl | rfl <;> rfl
def Val.val (v : Val) : Value := .agg v.cells.toArray
inductive Val.Ok (g : GH) : Val → Prop where
  | mk {kind int : Int} {text : List UInt8} {items : List Val} {iA : Option Addr} {ic : Nat} {keys : List (List UInt8)} {kA : Option Addr} {kc : Nat}
    (hi : Row g Val.cells iA items) (hk : Row g encK kA keys) (hic : items.length ≤ ic) (hkc : keys.length ≤ kc) (hb : items.length ≤ 1000 ∧ keys.length ≤ 1000) (h : ∀ x ∈ items, Val.Ok g x) : Val.Ok g (.mk kind int text items iA ic keys kA kc)
theorem Val.Ok.mono {g g' : GH} {v : Val} (h : v.Ok g) (k : g.le g') : v.Ok g' := by
  induction h with
  | mk hi hk hic hkc hb h ih => exact .mk (hi.mono k) (hk.mono k) hic hkc hb ih
mutual
def Val.t : Val → T
  | .mk kind int text items _ _ keys _ _ => .mk kind int text (Val.ts items) keys
def Val.ts : List Val → List T
  | [] => []
  | x :: r => x.t :: Val.ts r
end
theorem Val.ts_map : ∀ (l : List Val), Val.ts l = l.map Val.t
  | [] => rfl
  | x :: r => by rw [Val.ts, Val.ts_map r]; rfl
theorem Val.t_mk (kind int : Int) (text : List UInt8) (items : List Val) (iA ic keys kA kc) : (Val.mk kind int text items iA ic keys kA kc).t = .mk kind int text (items.map Val.t) keys := by
  rw [Val.t, Val.ts_map]
/-- What is drawn. -/
inductive WF : Nat → T → Prop where
  | null (d : Nat) : WF d (.mk 0 0 [] [] [])
  | bool (d : Nat) (b : Int) (h : b = 0 ∨ b = 1) : WF d (.mk 1 b [] [] [])
  | int (d : Nat) (n : Int) (h1 : -9223372036854775808 ≤ n) (h2 : n ≤ 9223372036854775807) : WF d (.mk 2 n [] [] [])
  | text (d : Nat) (s : List UInt8) (h : s.length ≤ 6) : WF d (.mk 3 0 s [] [])
  | list (d : Nat) (l : List T) (hl : l.length ≤ 4) (h : ∀ x ∈ l, WF d x) : WF (d + 1) (.mk 4 0 [] l [])
  | map (d : Nat) (l : List T) (ks : List (List UInt8)) (hk : ks.length = l.length) (hl : l.length ≤ 4) (hs : ks.Pairwise fun a b => a < b) (h6 : ∀ k ∈ ks, k.length ≤ 6) (h : ∀ x ∈ l, WF d x) : WF (d + 1) (.mk 5 0 [] l ks)
theorem WF.mono {d d' : Nat} {t : T} (h : WF d t) (k : d ≤ d') : WF d' t := by
  induction h generalizing d' with
  | null d => exact .null d'
  | bool d b h => exact .bool d' b h
  | int d n h1 h2 => exact .int d' n h1 h2
  | text d s h => exact .text d' s h
  | list d l hl h ih =>
    obtain ⟨d', rfl⟩ : ∃ x, d' = x + 1 := ⟨d' - 1, by omega⟩
    exact .list d' l hl fun x hx => ih x hx (by omega)
  | map d l ks hk hl hs h6 h ih =>
    obtain ⟨d', rfl⟩ : ∃ x, d' = x + 1 := ⟨d' - 1, by omega⟩
    exact .map d' l ks hk hl hs h6 fun x hx => ih x hx (by omega)
end Go.Proofs.YthkfnmmbjoadbaaGreatDoor
/- WholeTexts: what compares strings. -/
set_option linter.unusedVariables false
set_option linter.unusedSimpArgs false
set_option maxRecDepth 100000
namespace Go.Proofs.YthkfnmmbjoadbaaGreatDoor
open Go Go.SX

theorem str_list (l : List UInt8) : (str l).toList = l := by rw [ByteArray.toList_eq]; simp [str]
theorem str_beq (a b : List UInt8) : ((str a).toList == (str b).toList) = decide (a = b) := by
  rw [str_list, str_list]
  by_cases h : a = b <;> simp [h]
theorem str_less (a b : List UInt8) : Op.bytesLess (str a).toList (str b).toList = decide (a < b) := by
  rw [str_list, str_list]
  exact Proofs.bytesLess_eq a b
def cmpB : List UInt8 → List UInt8 → Int := Lib.compareBytes
theorem f_cmpstr0 (g : GH) (a b : List UInt8) : Tri Tryz.prog 92 [.string (str a), .string (str b)] g [] fun v g' m' => v = .int .i64 (cmpB a b) ∧ m' = [] := by
  refine Tri.vc [.val (.string (str a)), .val (.string (str b))] Tryz.func92 rfl Tryz.ntmps92 rfl rfl ?_
  conv => whnf
  refine OOK.extern (v := .int .i64 (cmpB a b)) rfl rfl rfl (fun w hw => ?_) ?_
  · refine (run_callFunc_extern rfl (by kernel_rfl) (by kernel_rfl) (by kernel_rfl) (e := Extern.BytealgCompare.compare) (by kernel_rfl) _ w).trans ?_
    have := Lib.run_compareString (P := Tryz.prog) (str a) (str b) w
    rw [this]
    rfl
  conv => whnf
  exact .mk ⟨_, [], _, rfl, by decide, rfl, trivial, rfl, rfl⟩
theorem f_compare (g : GH) (a b : List UInt8) : Tri Tryz.prog 56 [.string (str a), .string (str b)] g [] fun v g' m' => v = .int .i64 (cmpB a b) ∧ m' = [] := by
  refine Tri.vc [.val (.string (str a)), .val (.string (str b))] Tryz.func56 rfl Tryz.ntmps56 rfl rfl ?_
  conv => whnf
  refine OOK.call [] rfl rfl rfl (by kernel_rfl) rfl (f_cmpstr0 g a b) (by decide) rfl ?_
  rintro v_ g1 m_ hg1 ⟨rfl, rfl⟩
  conv => whnf
  exact .mk ⟨_, [], _, rfl, by decide, rfl, trivial, rfl, rfl⟩
def idxB : List UInt8 → UInt8 → Int := Lib.indexByte
theorem f_index0 (g : GH) (a : List UInt8) (b : UInt8) : Tri Tryz.prog 97 [.string (str a), .int .u8 (b.toNat : Int)] g [] fun v g' m' => v = .int .i64 (idxB a b) ∧ m' = [] := by
  refine Tri.vc [.val (.string (str a)), .val (.int .u8 (b.toNat : Int))] Tryz.func97 rfl Tryz.ntmps97 rfl rfl ?_
  conv => whnf
  refine OOK.extern (v := .int .i64 (idxB a b)) rfl rfl rfl (fun w hw => ?_) ?_
  · refine (run_callFunc_extern rfl (by kernel_rfl) (by kernel_rfl) (by kernel_rfl) (e := Extern.BytealgIndexByte.indexByte) (by kernel_rfl) _ w).trans ?_
    have := Lib.run_indexByteString (P := Tryz.prog) (str a) (b.toNat : Int) w
    rw [this]
    simp [idxB, str]
  conv => whnf
  exact .mk ⟨_, [], _, rfl, by decide, rfl, trivial, rfl, rfl⟩
theorem f_index (g : GH) (a : List UInt8) (b : UInt8) : Tri Tryz.prog 61 [.string (str a), .int .u8 (b.toNat : Int)] g [] fun v g' m' => v = .int .i64 (idxB a b) ∧ m' = [] := by
  refine Tri.vc [.val (.string (str a)), .val (.int .u8 (b.toNat : Int))] Tryz.func61 rfl Tryz.ntmps61 rfl rfl ?_
  conv => whnf
  refine OOK.call [] rfl rfl rfl (by kernel_rfl) rfl (f_index0 g a b) (by decide) rfl ?_
  rintro v_ g1 m_ hg1 ⟨rfl, rfl⟩
  conv => whnf
  exact .mk ⟨_, [], _, rfl, by decide, rfl, trivial, rfl, rfl⟩
theorem f_isnan (g : GH) (a : List UInt8) : Tri Tryz.prog 117 [.string (str a)] g [] fun v g' m' => v = .bool false ∧ m' = [] := by
  refine Tri.vc [.val (.string (str a))] Tryz.func117 rfl Tryz.ntmps117 rfl rfl ?_
  conv => whnf
  refine .mk ⟨_, [], _, rfl, by decide, rfl, trivial, ?_, rfl⟩
  show Value.bool _ = _
  rw [str_beq]; simp
theorem f_isnan2 (g : GH) (a : List UInt8) : Tri Tryz.prog 94 [.string (str a)] g [] fun v g' m' => v = .bool false ∧ m' = [] := by
  refine Tri.vc [.val (.string (str a))] Tryz.func94 rfl Tryz.ntmps94 rfl rfl ?_
  conv => whnf
  refine .mk ⟨_, [], _, rfl, by decide, rfl, trivial, ?_, rfl⟩
  show Value.bool _ = _
  rw [str_beq]; simp
theorem f_less (g : GH) (a b : List UInt8) : Tri Tryz.prog 93 [.string (str a), .string (str b)] g [] fun v g' m' => v = .bool (decide (a < b)) ∧ m' = [] := by
  refine Tri.vc [.val (.string (str a)), .val (.string (str b))] Tryz.func93 rfl Tryz.ntmps93 rfl rfl ?_
  conv => whnf
  refine OOK.call [] rfl rfl rfl (by kernel_rfl) rfl (f_isnan g a) (by decide) rfl ?_
  rintro v_ g1 m_ hg1 ⟨rfl, rfl⟩
  conv => whnf
  refine ⟨(by intro q; cases q), fun _ => ?_⟩
  conv => whnf
  refine .mk ⟨_, [], _, rfl, by decide, rfl, trivial, ?_, rfl⟩
  show Value.bool _ = Value.bool _
  rw [str_less]
theorem OOK.toStr {P : Program} {n : Cfg} {o : Oper} {e : Env} {m : Mem} {g : GH} {K : Env → Mem → GH → Prop} {s d el : TypeId} {x : Operand} {A : Option Addr} {c : Nat} {l : List UInt8} (hop : o.op = .convert s d x) (hx : e.va m x = some (.slice A l.length c))
    (hs : P.underlying s = some (.slice el)) (he : P.underlying el = some (.int .u8)) (hd : P.underlying d = some .string) (hr : Row g encB A l) (h : putK n o.dst (.val (.string ⟨l.toArray⟩)) e fun e => K e m g) : OOK P n o e m g K := by
  refine OOK.val rfl (fun a w ha hw => ?_) h
  have hrun : (Go.convert s d (.slice A l.length c)).run P w = .ok (.string ⟨l.toArray⟩) w := by
    cases A with
    | none =>
      have : l = [] := by
        cases l with
        | nil => rfl
        | cons x r => obtain ⟨a, h, _⟩ := hr (by simp); cases h
      subst this
      exact run_convert_bytes_nil w s el hs he 0 c d hd
    | some a =>
      by_cases h0 : l = []
      · subst h0
        exact run_convert_bytes_back w s d el a c [] hs he hd (fun j hj => by simp at hj)
      · obtain ⟨a', ha', hrd⟩ := hr h0
        obtain rfl := Option.some.inj ha'
        refine run_convert_bytes_back w s d el a c l hs he hd (fun j hj => ?_)
        rw [← addN_eq]
        refine hw.cellG (hrd j _ ?_)
        have := flat_get encB_len l j 0 l[j] (.int .u8 (l[j].toNat : Int)) (List.getElem?_eq_getElem hj) rfl
        simpa using this
  simp only [execOp, hop, ha.va hx, Sem.run_bind, hrun, Result.andThen_ok, Sem.run_pure]
theorem f_beq (g : GH) (A B : Option Addr) (c d : Nat) (l r : List UInt8) (hA : Row g encB A l) (hB : Row g encB B r) :
    Tri Tryz.prog 15 [.slice A l.length c, .slice B r.length d] g [] fun v g' m' => v = .bool (decide (l = r)) ∧ m' = [] := by
  refine Tri.vc [.val (.slice A l.length c), .val (.slice B r.length d)] Tryz.func15 rfl Tryz.ntmps15 rfl rfl ?_
  conv => whnf
  refine OOK.toStr rfl rfl rfl rfl rfl hA ?_
  conv => whnf
  refine OOK.toStr rfl rfl rfl rfl rfl hB ?_
  conv => whnf
  refine .mk ⟨_, [], _, rfl, by decide, rfl, trivial, ?_, rfl⟩
  show Value.bool _ = Value.bool _
  rw [bytes_eq]
  congr 1
  simp
theorem f_eqS (g : GH) (A B : Option Addr) (c d : Nat) (l r : List (List UInt8)) (hA : Row g encK A l) (hB : Row g encK B r) (hl : l.length ≤ 1000) :
    Tri Tryz.prog 40 [.slice A l.length c, .slice B r.length d] g [] fun v g' m' => m' = [] ∧ v = .bool (decide (l = r)) := by
  refine Tri.vc [.val (.slice A l.length c), .val (.slice B r.length d)] Tryz.func40 rfl Tryz.ntmps40 rfl rfl ?_
  conv => whnf
  refine ⟨fun q => ?_, fun q => ?_⟩
  · conv => whnf
    have hne : l.length ≠ r.length := fun h => by rw [h] at q; simp at q
    have : decide (l = r) = false := decide_eq_false fun h => hne (by rw [h])
    rw [this]
    exact .mk ⟨_, [], _, rfl, by decide, rfl, trivial, rfl, rfl⟩
  have hlen : l.length = r.length := Int.ofNat.inj (by simpa using q)
  conv => whnf
  refine COK.loop (α := Nat) (fun x => [(0, .val (.slice A l.length c)), (1, .val (.slice B r.length d)), (12, .val (.int .i64 l.length)), (13, .val (.int .i64 x))]) (fun _ => []) (fun x _ => x ≤ l.length ∧ ∀ j < x, l[j]? = r[j]?) (fun x => l.length - x) 0 [] (Sub.of (by decide) rfl ⟨rfl, rfl, rfl, rfl, trivial⟩) ⟨Nat.zero_le _, fun j hj => by omega⟩ ?_
  rintro i g1 hg1 ⟨hi, hsame⟩
  by_cases hlt : i < l.length
  · obtain ⟨x, hx⟩ : ∃ x, l[i]? = some x := ⟨_, List.getElem?_eq_getElem hlt⟩
    obtain ⟨y, hy⟩ : ∃ y, r[i]? = some y := ⟨_, List.getElem?_eq_getElem (by omega)⟩
    obtain ⟨a, rfl, hra⟩ := (hA.mono hg1).at_ encK_len hx
    obtain ⟨b, rfl, hrb⟩ := (hB.mono hg1).at_ encK_len hy
    refine vcC_ok _ _ _ _ _ ?_
    conv => whnf
    refine ⟨fun _ => ?_, fun h1 => absurd h1 (by simp [hlt])⟩
    conv => whnf
    refine COK.quiet (by kernel_rfl) (by kernel_rfl) ?_
    conv => whnf
    refine ⟨⟨by omega, by omega⟩, ?_⟩
    conv => whnf
    refine YN.load rfl rfl rfl (v := .string (str x)) (Reads.at0 hra) ?_
    conv => whnf
    refine ⟨⟨by omega, by omega⟩, ?_⟩
    conv => whnf
    refine YN.load rfl rfl rfl (v := .string (str y)) (Reads.at0 hrb) ?_
    conv => whnf
    refine ⟨fun q => ?_, fun q => ?_⟩
    · conv => whnf
      have hne : l ≠ r := fun h => by
        rw [h, hy] at hx
        obtain rfl := Option.some.inj hx
        rw [str_beq] at q
        simp at q
      rw [decide_eq_false hne]
      exact .mk ⟨_, [], _, rfl, by decide, rfl, trivial, rfl, rfl⟩
    · conv => whnf
      have hxy : x = y := by
        rw [str_beq] at q
        simpa using q
      exact ⟨i + 1, [], Sub.of (by decide) rfl ⟨rfl, rfl, rfl, int_eq (i64_in (by omega) (by omega)), trivial⟩, ⟨hlt, fun j hj => by
        rcases Nat.lt_succ_iff_lt_or_eq.1 hj with h | rfl
        · exact hsame j h
        · rw [hx, hy, hxy]⟩, by omega⟩
  · refine vcC_ok _ _ _ _ _ ?_
    conv => whnf
    refine ⟨fun h1 => absurd h1 (by simp [hlt]), fun _ => ?_⟩
    conv => whnf
    have he : l = r := by
      apply List.ext_getElem?
      intro j
      rcases Nat.lt_or_ge j i with h | h
      · exact hsame j h
      · rw [List.getElem?_eq_none (by omega), List.getElem?_eq_none (by omega)]
    rw [decide_eq_true he]
    exact .mk ⟨_, [], _, rfl, by decide, rfl, trivial, rfl, rfl⟩
end Go.Proofs.YthkfnmmbjoadbaaGreatDoor
/- WholeTexts: two payloads are the same. -/
-- INST THM=f_same;FUN=workflow/workflowtop.loomSame
-- INST THM=f_vsame;FUN=workflow/value.Same
set_option linter.unusedVariables false
set_option linter.unusedSimpArgs false
set_option maxRecDepth 100000
namespace Go.Proofs.YthkfnmmbjoadbaaGreatDoor
open Go Go.SX

theorem T.ext_iff {kind int kind' int' : Int} {text text' : List UInt8} {items items' : List T} {keys keys' : List (List UInt8)} : T.mk kind int text items keys = T.mk kind' int' text' items' keys' ↔ kind = kind' ∧ int = int' ∧ text = text' ∧ keys = keys' ∧ items = items' := by
  constructor
  · intro h; cases h; exact ⟨rfl, rfl, rfl, rfl, rfl⟩
  · rintro ⟨rfl, rfl, rfl, rfl, rfl⟩; rfl
def SameR (x y : T) (v : Value) (m' : Mem) : Prop := m' = [] ∧ ∃ b, v = .bool b ∧ (b = true ↔ x = y)
theorem f_eqF (g : GH) (f : FuncId) (A B : Option Addr) (c d : Nat) (l r : List Val) (hA : Row g Val.cells A l) (hB : Row g Val.cells B r) (hl : l.length ≤ 1000)
    (h : ∀ x ∈ l, ∀ y ∈ r, ∀ g1, g.le g1 → calleeOk Tryz.prog f = true ∧ Tri Tryz.prog f [x.val, y.val] g1 [] fun v g' m' => SameR x.t y.t v m') :
    Tri Tryz.prog 41 [.slice A l.length c, .slice B r.length d, .func (.func f) #[] #[]] g [] fun v g' m' => m' = [] ∧ ∃ b, v = .bool b ∧ (b = true ↔ l.map Val.t = r.map Val.t) := by
  refine Tri.vc [.val (.slice A l.length c), .val (.slice B r.length d), .val (.func (.func f) #[] #[])] Tryz.func41 rfl Tryz.ntmps41 rfl rfl ?_
  conv => whnf
  refine ⟨fun q => ?_, fun q => ?_⟩
  · conv => whnf
    have hne : l.length ≠ r.length := fun h => by rw [h] at q; simp at q
    exact .mk ⟨_, [], _, rfl, by decide, rfl, trivial, rfl, false, rfl, ⟨(fun h => by cases h), fun h => absurd (by simpa using congrArg List.length h) hne⟩⟩
  have hlen : l.length = r.length := Int.ofNat.inj (by simpa using q)
  conv => whnf
  refine COK.loop (α := Nat) (fun x => [(1, .val (.slice B r.length d)), (2, .val (.func (.func f) #[] #[])), (15, .val (.slice A l.length c)), (16, .val (.int .i64 l.length)), (17, .val (.int .i64 x))]) (fun _ => []) (fun x _ => x ≤ l.length ∧ ∀ j < x, (l.map Val.t)[j]? = (r.map Val.t)[j]?) (fun x => l.length - x) 0 [] (Sub.of (by decide) rfl ⟨rfl, rfl, rfl, rfl, rfl, trivial⟩) ⟨Nat.zero_le _, fun j hj => by omega⟩ ?_
  rintro i g1 hg1 ⟨hi, hsame⟩
  by_cases hlt : i < l.length
  · obtain ⟨x, hx⟩ : ∃ x, l[i]? = some x := ⟨_, List.getElem?_eq_getElem hlt⟩
    obtain ⟨y, hy⟩ : ∃ y, r[i]? = some y := ⟨_, List.getElem?_eq_getElem (by omega)⟩
    obtain ⟨a, rfl, hra⟩ := (hA.mono hg1).at_ Val.len hx
    obtain ⟨b, rfl, hrb⟩ := (hB.mono hg1).at_ Val.len hy
    obtain ⟨hok, hT⟩ := h x (List.mem_of_getElem? hx) y (List.mem_of_getElem? hy) g1 hg1
    obtain ⟨xk, xi, xt, xl, xA, xc, xs, xB, xd⟩ := x
    obtain ⟨yk, yi, yt, yl, yA, yc, ys, yB, yd⟩ := y
    refine vcC_ok _ _ _ _ _ ?_
    conv => whnf
    refine ⟨fun _ => ?_, fun h1 => absurd h1 (by simp [hlt])⟩
    conv => whnf
    refine ⟨⟨by omega, by omega⟩, ?_⟩
    conv => whnf
    refine OOK.yn (YN.loads rfl rfl rfl hra ?_)
    conv => whnf
    intro b8
    conv => whnf
    refine ⟨⟨by omega, by omega⟩, ?_⟩
    conv => whnf
    refine OOK.yn (YN.loads rfl rfl rfl hrb ?_)
    conv => whnf
    intro b9
    conv => whnf
    refine OOK.call [] rfl rfl rfl hok rfl hT (by decide) rfl ?_
    rintro v_ g2 m_ hg2 ⟨rfl, bb, rfl, hbb⟩
    conv => whnf
    refine ⟨fun q => ?_, fun q => ?_⟩
    · conv => whnf
      have hne : ¬ (l.map Val.t = r.map Val.t) := fun h => by
        have h1 : (l.map Val.t)[i]? = (r.map Val.t)[i]? := by rw [h]
        rw [List.getElem?_map, List.getElem?_map, hx, hy] at h1
        have := hbb.2 (Option.some.inj h1)
        rw [this] at q
        cases q
      exact .mk ⟨_, [], _, rfl, by decide, rfl, trivial, rfl, false, rfl, ⟨(fun h => by cases h), fun h => absurd h hne⟩⟩
    · conv => whnf
      have hxy := hbb.1 (by simpa using q)
      exact ⟨i + 1, [], Sub.of (by decide) rfl ⟨rfl, rfl, rfl, rfl, int_eq (i64_in (by omega) (by omega)), trivial⟩, ⟨hlt, fun j hj => by
        rcases Nat.lt_succ_iff_lt_or_eq.1 hj with h | rfl
        · exact hsame j h
        · rw [List.getElem?_map, List.getElem?_map, hx, hy]
          exact congrArg some hxy⟩, by omega⟩
  · refine vcC_ok _ _ _ _ _ ?_
    conv => whnf
    refine ⟨fun h1 => absurd h1 (by simp [hlt]), fun _ => ?_⟩
    conv => whnf
    have he : l.map Val.t = r.map Val.t := by
      apply List.ext_getElem?
      intro j
      rcases Nat.lt_or_ge j i with h | h
      · exact hsame j h
      · rw [List.getElem?_eq_none (by simp; omega), List.getElem?_eq_none (by simp; omega)]
    exact .mk ⟨_, [], _, rfl, by decide, rfl, trivial, rfl, true, rfl, ⟨fun _ => he, fun _ => rfl⟩⟩
theorem f_same (a : Val) : ∀ (b : Val) (g : GH), a.Ok g → b.Ok g → Tri Tryz.prog 11 [a.val, b.val] g [] fun v g' m' => SameR a.t b.t v m' := by
  induction a using Val.ind with
  | h xk xi xt xl xA xc xs xB xd ih =>
    rintro ⟨yk, yi, yt, yl, yA, yc, ys, yB, yd⟩ g (⟨ai, ak, -, -, ab, ah⟩) (⟨bi, bk, -, -, bb, bh⟩)
    unfold SameR
    rw [Val.t_mk, Val.t_mk, T.ext_iff]
    refine Tri.vc [.val (Val.mk xk xi xt xl xA xc xs xB xd).val, .val (Val.mk yk yi yt yl yA yc ys yB yd).val] Tryz.func11 rfl Tryz.ntmps11 rfl rfl ?_
    conv => whnf
    intro b2
    conv => whnf
    intro b3
    conv => whnf
    refine ⟨fun q1 => ?_, fun q1 => ?_⟩
    rotate_left
    · conv => whnf
      exact .mk ⟨_, [], _, rfl, by decide, rfl, trivial, rfl, false, rfl, ⟨(fun h => by cases h), fun h => absurd h.1 (by simpa using q1)⟩⟩
    conv => whnf
    refine ⟨fun q2 => ?_, fun q2 => ?_⟩
    rotate_left
    · conv => whnf
      exact .mk ⟨_, [], _, rfl, by decide, rfl, trivial, rfl, false, rfl, ⟨(fun h => by cases h), fun h => absurd h.2.1 (by simpa using q2)⟩⟩
    conv => whnf
    refine ⟨fun q3 => ?_, fun q3 => ?_⟩
    rotate_left
    · conv => whnf
      exact .mk ⟨_, [], _, rfl, by decide, rfl, trivial, rfl, false, rfl, ⟨(fun h => by cases h), fun h => absurd h.2.2.1 (by rw [str_beq] at q3; simpa using q3)⟩⟩
    conv => whnf
    refine OOK.call [] rfl rfl rfl (by kernel_rfl) rfl (f_eqS g xB yB xd yd xs ys ak bk ab.2) (by decide) rfl ?_
    rintro v_ g1 m_ hg1 ⟨rfl, rfl⟩
    conv => whnf
    refine ⟨fun q4 => ?_, fun q4 => ?_⟩
    rotate_left
    · conv => whnf
      exact .mk ⟨_, [], _, rfl, by decide, rfl, trivial, rfl, false, rfl, ⟨(fun h => by cases h), fun h => absurd h.2.2.2.1 (of_decide_eq_false q4)⟩⟩
    conv => whnf
    refine OOK.call [] rfl rfl rfl (by kernel_rfl) rfl (f_eqF g1 11 xA yA xc yc xl yl (ai.mono hg1) (bi.mono hg1) ab.1 (fun x hx y hy g2 hg2 => ⟨by kernel_rfl, ih x hx y g2 ((ah x hx).mono (hg1.trans hg2)) ((bh y hy).mono (hg1.trans hg2))⟩)) (by decide) rfl ?_
    rintro v_ g2 m_ hg2 ⟨rfl, bb, rfl, hbb⟩
    conv => whnf
    have h1 : xk = yk := by simpa using q1
    have h2 : xi = yi := by simpa using q2
    have h3 : xt = yt := by rw [str_beq] at q3; simpa using q3
    have h4 : xs = ys := of_decide_eq_true q4
    exact .mk ⟨_, [], _, rfl, by decide, rfl, trivial, rfl, bb, rfl, ⟨fun h => ⟨h1, h2, h3, h4, hbb.1 h⟩, fun h => hbb.2 h.2.2.2.2⟩⟩
theorem f_vsame (a : Val) : ∀ (b : Val) (g : GH), a.Ok g → b.Ok g → Tri Tryz.prog 25 [a.val, b.val] g [] fun v g' m' => SameR a.t b.t v m' := by
  induction a using Val.ind with
  | h xk xi xt xl xA xc xs xB xd ih =>
    rintro ⟨yk, yi, yt, yl, yA, yc, ys, yB, yd⟩ g (⟨ai, ak, -, -, ab, ah⟩) (⟨bi, bk, -, -, bb, bh⟩)
    unfold SameR
    rw [Val.t_mk, Val.t_mk, T.ext_iff]
    refine Tri.vc [.val (Val.mk xk xi xt xl xA xc xs xB xd).val, .val (Val.mk yk yi yt yl yA yc ys yB yd).val] Tryz.func25 rfl Tryz.ntmps25 rfl rfl ?_
    conv => whnf
    intro b2
    conv => whnf
    intro b3
    conv => whnf
    refine ⟨fun q1 => ?_, fun q1 => ?_⟩
    rotate_left
    · conv => whnf
      exact .mk ⟨_, [], _, rfl, by decide, rfl, trivial, rfl, false, rfl, ⟨(fun h => by cases h), fun h => absurd h.1 (by simpa using q1)⟩⟩
    conv => whnf
    refine ⟨fun q2 => ?_, fun q2 => ?_⟩
    rotate_left
    · conv => whnf
      exact .mk ⟨_, [], _, rfl, by decide, rfl, trivial, rfl, false, rfl, ⟨(fun h => by cases h), fun h => absurd h.2.1 (by simpa using q2)⟩⟩
    conv => whnf
    refine ⟨fun q3 => ?_, fun q3 => ?_⟩
    rotate_left
    · conv => whnf
      exact .mk ⟨_, [], _, rfl, by decide, rfl, trivial, rfl, false, rfl, ⟨(fun h => by cases h), fun h => absurd h.2.2.1 (by rw [str_beq] at q3; simpa using q3)⟩⟩
    conv => whnf
    refine OOK.call [] rfl rfl rfl (by kernel_rfl) rfl (f_eqS g xB yB xd yd xs ys ak bk ab.2) (by decide) rfl ?_
    rintro v_ g1 m_ hg1 ⟨rfl, rfl⟩
    conv => whnf
    refine ⟨fun q4 => ?_, fun q4 => ?_⟩
    rotate_left
    · conv => whnf
      exact .mk ⟨_, [], _, rfl, by decide, rfl, trivial, rfl, false, rfl, ⟨(fun h => by cases h), fun h => absurd h.2.2.2.1 (of_decide_eq_false q4)⟩⟩
    conv => whnf
    refine OOK.call [] rfl rfl rfl (by kernel_rfl) rfl (f_eqF g1 25 xA yA xc yc xl yl (ai.mono hg1) (bi.mono hg1) ab.1 (fun x hx y hy g2 hg2 => ⟨by kernel_rfl, ih x hx y g2 ((ah x hx).mono (hg1.trans hg2)) ((bh y hy).mono (hg1.trans hg2))⟩)) (by decide) rfl ?_
    rintro v_ g2 m_ hg2 ⟨rfl, bb, rfl, hbb⟩
    conv => whnf
    have h1 : xk = yk := by simpa using q1
    have h2 : xi = yi := by simpa using q2
    have h3 : xt = yt := by rw [str_beq] at q3; simpa using q3
    have h4 : xs = ys := of_decide_eq_true q4
    exact .mk ⟨_, [], _, rfl, by decide, rfl, trivial, rfl, bb, rfl, ⟨fun h => ⟨h1, h2, h3, h4, hbb.1 h⟩, fun h => hbb.2 h.2.2.2.2⟩⟩
end Go.Proofs.YthkfnmmbjoadbaaGreatDoor
/- WholeTexts: what is drawn. -/
set_option linter.unusedVariables false
set_option linter.unusedSimpArgs false
set_option maxRecDepth 100000
namespace Go.Proofs.YthkfnmmbjoadbaaGreatDoor
open Go Go.SX

theorem f_lbool (g : GH) (b : Bool) : Tri Tryz.prog 26 [.bool b] g [] fun v g' m' => m' = [] ∧ v = (Val.mk 1 (if b then 1 else 0) [] [] none 0 [] none 0).val := by
  refine Tri.vc [.val (.bool b)] Tryz.func26 rfl Tryz.ntmps26 rfl rfl ?_
  conv => whnf
  intro rb
  conv => whnf
  refine ⟨fun q => ?_, fun q => ?_⟩
  · conv => whnf
    subst q
    exact .mk ⟨_, [], _, rfl, by decide, rfl, trivial, rfl, rfl⟩
  · conv => whnf
    subst q
    exact .mk ⟨_, [], _, rfl, by decide, rfl, trivial, rfl, rfl⟩
theorem f_lint (g : GH) (n : Int) : Tri Tryz.prog 27 [.int .i64 n] g [] fun v g' m' => m' = [] ∧ v = (Val.mk 2 n [] [] none 0 [] none 0).val := by
  refine Tri.vc [.val (.int .i64 n)] Tryz.func27 rfl Tryz.ntmps27 rfl rfl ?_
  conv => whnf
  intro rb
  conv => whnf
  exact .mk ⟨_, [], _, rfl, by decide, rfl, trivial, rfl, rfl⟩
theorem f_lstr (g : GH) (s : List UInt8) : Tri Tryz.prog 29 [.string (str s)] g [] fun v g' m' => m' = [] ∧ v = (Val.mk 3 0 s [] none 0 [] none 0).val := by
  refine Tri.vc [.val (.string (str s))] Tryz.func29 rfl Tryz.ntmps29 rfl rfl ?_
  conv => whnf
  intro rb
  conv => whnf
  exact .mk ⟨_, [], _, rfl, by decide, rfl, trivial, rfl, rfl⟩
theorem f_llist (g : GH) (l : List Val) (A : Option Addr) (c : Nat) : Tri Tryz.prog 31 [.slice A l.length c] g [] fun v g' m' => m' = [] ∧ v = (Val.mk 4 0 [] l A c [] none 0).val := by
  refine Tri.vc [.val (.slice A l.length c)] Tryz.func31 rfl Tryz.ntmps31 rfl rfl ?_
  conv => whnf
  intro rb
  conv => whnf
  exact .mk ⟨_, [], _, rfl, by decide, rfl, trivial, rfl, rfl⟩
theorem f_word (g : GH) (hB : Nat) (h : Hd) (hh : h.ok g) : Tri Tryz.prog 28 [.pointer (some ⟨hB, 0, none⟩)] g [h.slot hB] fun v g' m' => ∃ (k : Int) (h' : Hd), v = .int .i64 k ∧ -9223372036854775808 ≤ k ∧ k ≤ 9223372036854775807 ∧ h'.ok g' ∧ m' = [h'.slot hB] := by
  refine Tri.vc [.own 0 0] Tryz.func28 rfl Tryz.ntmps28 rfl rfl ?_
  conv => whnf
  refine OOK.call [0] rfl rfl rfl (by kernel_rfl) rfl (hand_n g hB h 12 hh (by omega) (by omega)) (by decide) rfl ?_
  rintro v_ g1 m_ hg1 ⟨r, h1, rfl, r0, r1, hnh1, hh1, rfl⟩
  conv => whnf
  refine ⟨fun q0 => ?_, fun q0 => ?_⟩
  · conv => whnf
    intro tb
    conv => whnf
    refine OOK.call [0] rfl rfl rfl (by kernel_rfl) rfl (hand_n g1 hB h1 6 hh1 (by omega) (by omega)) (by decide) rfl ?_
    rintro v_ g2 m_ hg2 ⟨u, h2, rfl, u0, u1, hnh2, hh2, rfl⟩
    conv => whnf
    refine ⟨⟨by omega, by omega⟩, ?_⟩
    obtain ⟨k, rfl⟩ : ∃ k : Nat, u = k := Int.eq_ofNat_of_zero_le u0
    obtain ⟨v, hv, hv0, hv1⟩ : ∃ v : Int, [(9223372036854775807 : Int), -9223372036854775808, 9223372036854775806, 4294967296, -128, 64][k]? = some v ∧ -9223372036854775808 ≤ v ∧ v ≤ 9223372036854775807 := by
      have : k < 6 := by omega
      match k, this with
      | 0, _ => exact ⟨_, rfl, by decide, by decide⟩
      | 1, _ => exact ⟨_, rfl, by decide, by decide⟩
      | 2, _ => exact ⟨_, rfl, by decide, by decide⟩
      | 3, _ => exact ⟨_, rfl, by decide, by decide⟩
      | 4, _ => exact ⟨_, rfl, by decide, by decide⟩
      | 5, _ => exact ⟨_, rfl, by decide, by decide⟩
    conv => whnf
    refine OOK.yn (YN.loadOwn (v := .int .i64 v) 1 rfl rfl rfl rfl ?_ ?_)
    · have : ([(9223372036854775807 : Int), -9223372036854775808, 9223372036854775806, 4294967296, -128, 64].map (Value.int .i64))[k]? = some (.int .i64 v) := by rw [List.getElem?_map, hv]; rfl
      show ([(9223372036854775807 : Int), -9223372036854775808, 9223372036854775806, 4294967296, -128, 64].map (Value.int .i64))[0 + k * 1]? = _
      rw [Nat.mul_one, Nat.zero_add]
      exact this
    conv => whnf
    exact .mk ⟨_, [0], _, rfl, by decide, rfl, ⟨rfl, trivial⟩, v, h2, rfl, hv0, hv1, hh2, rfl⟩
  conv => whnf
  refine ⟨fun q1 => ?_, fun q1 => ?_⟩
  · conv => whnf
    refine OOK.call [0] rfl rfl rfl (by kernel_rfl) rfl (hand_n g1 hB h1 2147483648 hh1 (by omega) (by omega)) (by decide) rfl ?_
    rintro v_ g2 m_ hg2 ⟨u, h2, rfl, u0, u1, hnh2, hh2, rfl⟩
    conv => whnf
    refine OOK.call [0] rfl rfl rfl (by kernel_rfl) rfl (hand_n g2 hB h2 2147483648 hh2 (by omega) (by omega)) (by decide) rfl ?_
    rintro v_ g3 m_ hg3 ⟨w, h3, rfl, w0, w1, hnh3, hh3, rfl⟩
    conv => whnf
    have hm : 0 ≤ u * w ∧ u * w ≤ 4611686018427387904 := by
      constructor
      · exact Int.mul_nonneg u0 w0
      · have : u * w ≤ 2147483648 * 2147483648 := Int.mul_le_mul (by omega) (by omega) w0 (by omega)
        omega
    refine .mk ⟨_, [0], _, rfl, by decide, rfl, ⟨rfl, trivial⟩, u * w, h3, ?_, by omega, by omega, hh3, rfl⟩
    exact int_eq (i64_in (by omega) (by omega))
  conv => whnf
  have hneg : ∀ u : Int, 0 ≤ u → u < 70 → IntKind.i64.wrap (-1 - u) = -1 - u := fun u h0 h1 => i64_in (by omega) (by omega)
  refine ⟨fun q2 => ?_, fun q2 => ?_⟩
  · conv => whnf
    refine ⟨fun _ => ?_, fun q3 => absurd q2 (by rw [q3]; decide)⟩
    conv => whnf
    refine OOK.call [0] rfl rfl rfl (by kernel_rfl) rfl (hand_n g1 hB h1 70 hh1 (by omega) (by omega)) (by decide) rfl ?_
    rintro v_ g2 m_ hg2 ⟨u, h2, rfl, u0, u1, hnh2, hh2, rfl⟩
    conv => whnf
    exact .mk ⟨_, [0], _, rfl, by decide, rfl, ⟨rfl, trivial⟩, -1 - u, h2, int_eq (hneg u u0 u1), by omega, by omega, hh2, rfl⟩
  conv => whnf
  refine ⟨fun q3 => ?_, fun q3 => ?_⟩
  · conv => whnf
    refine OOK.call [0] rfl rfl rfl (by kernel_rfl) rfl (hand_n g1 hB h1 70 hh1 (by omega) (by omega)) (by decide) rfl ?_
    rintro v_ g2 m_ hg2 ⟨u, h2, rfl, u0, u1, hnh2, hh2, rfl⟩
    conv => whnf
    exact .mk ⟨_, [0], _, rfl, by decide, rfl, ⟨rfl, trivial⟩, -1 - u, h2, int_eq (hneg u u0 u1), by omega, by omega, hh2, rfl⟩
  · conv => whnf
    refine OOK.call [0] rfl rfl rfl (by kernel_rfl) rfl (hand_n g1 hB h1 70 hh1 (by omega) (by omega)) (by decide) rfl ?_
    rintro v_ g2 m_ hg2 ⟨u, h2, rfl, u0, u1, hnh2, hh2, rfl⟩
    conv => whnf
    exact .mk ⟨_, [0], _, rfl, by decide, rfl, ⟨rfl, trivial⟩, u, h2, rfl, by omega, by omega, hh2, rfl⟩
structure Cs where
  h : Hd
  b : List UInt8
  s : Slot
  A : Option Addr
  c : Nat
theorem f_chars (g : GH) (hB : Nat) (h : Hd) (hh : h.ok g) : Tri Tryz.prog 30 [.pointer (some ⟨hB, 0, none⟩)] g [h.slot hB] fun v g' m' => ∃ (s : List UInt8) (h' : Hd), v = .string (str s) ∧ s.length ≤ 6 ∧ h'.ok g' ∧ m' = [h'.slot hB] := by
  refine Tri.vc [.own 0 0] Tryz.func30 rfl Tryz.ntmps30 rfl rfl ?_
  conv => whnf
  refine OOK.call [0] rfl rfl rfl (by kernel_rfl) rfl (hand_n g hB h 7 hh (by omega) (by omega)) (by decide) rfl ?_
  rintro v_ g1 m_ hg1 ⟨r, h1, rfl, r0, r1, hnh1, hh1, rfl⟩
  conv => whnf
  refine COK.dummy 0 ?_
  refine COK.loop (α := Cs) (fun y => [(0, .own 0 0), (3, .val (.slice y.A y.b.length y.c)), (6, .val (.int .i64 r)), (7, .val (.int .i64 y.b.length))])
    (fun y => [y.h.slot hB, y.s]) (fun y g => y.h.ok g ∧ OwnAt 5 1 encB y.b y.s y.A y.c ∧ (y.b.length : Int) ≤ r) (fun y => (r - y.b.length).toNat)
    ⟨h1, [], ⟨0, .dead⟩, none, 0⟩ [0, 1] (Sub.of (by decide) rfl ⟨rfl, rfl, rfl, rfl, trivial⟩) ⟨hh1, .nil _ rfl, r0⟩ ?_
  rintro ⟨h2, b, so, Ab, cb⟩ g2 hg2 ⟨hh2, hOb, hbu⟩
  simp only at hh2 hOb hbu
  dsimp only
  refine vcC_ok _ _ _ _ _ ?_
  conv => whnf
  refine ⟨fun q1 => ?_, fun q1 => ?_⟩
  · have hbl : (b.length : Int) < r := of_decide_eq_true q1
    conv => whnf
    refine OOK.call [0] rfl rfl rfl (by kernel_rfl) rfl (hand_n g2 hB h2 95 hh2 (by omega) (by omega)) (by decide) rfl ?_
    rintro v_ g3 m_ hg3 ⟨u, h3, rfl, u0, u1, hnh3, hh3, rfl⟩
    conv => whnf
    refine OOK.call [0] rfl rfl rfl (by kernel_rfl) rfl (hand_n g3 hB h3 3 hh3 (by omega) (by omega)) (by decide) rfl ?_
    rintro v_ g4 m_ hg4 ⟨w, h4, rfl, w0, w1, hnh4, hh4, rfl⟩
    conv => whnf
    refine ⟨fun q2 => ?_, fun q2 => ?_⟩
    · conv => whnf
      refine OOK.call [0] rfl rfl rfl (by kernel_rfl) rfl (hand_n g4 hB h4 256 hh4 (by omega) (by omega)) (by decide) rfl ?_
      rintro v_ g5 m_ hg5 ⟨z, h5, rfl, z0, z1, hnh5, hh5, rfl⟩
      conv => whnf
      obtain ⟨y, hy⟩ : ∃ y : UInt8, IntKind.u8.wrap z = (y.toNat : Int) := ⟨UInt8.ofNat (z).toNat, by
        rw [IntKind.wrap_u8, UInt8.toNat_ofNat']
        omega⟩
      rw [hy]
      intro vb
      conv => whnf
      refine OOK.appendRowB y 1 encB_len rfl rfl rfl rfl (.inl ⟨_, rfl⟩) rfl (size := 1) (bytes := 1) rfl rfl rfl (by decide) rfl rfl hOb (Src.own (i := 2) (q := 0) (cs := encB y) (t := 5) (fr := (0, 0)) rfl rfl (fun j v hj => by simpa using hj)) (encB_one _) (by show (2 * (b.length + 1) + 1000) * 1 ≤ _; omega) ?_
      intro s' A' c' hO'
      conv => whnf
      refine ⟨⟨h5, b ++ [y], s', A', c'⟩, [0, 3], Sub.of (by decide) rfl ⟨rfl, ?_, rfl, int_eq ?_, trivial⟩, ⟨hh5, hO', ?_⟩, ?_⟩
      · show Value.slice A' (b.length + 1) c' = Value.slice A' (b ++ [_]).length c'
        rw [List.length_append]; rfl
      · rw [List.length_append]
        exact i64_in (by omega) (by omega)
      · show ((b ++ [y]).length : Int) ≤ r
        rw [List.length_append]
        simp only [List.length_cons, List.length_nil]
        omega
      · show (r - (b ++ [y]).length).toNat < (r - b.length).toNat
        rw [List.length_append]
        simp only [List.length_cons, List.length_nil]
        omega
    · conv => whnf
      have hw1 : IntKind.i64.wrap (32 + u) = 32 + u := i64_in (by omega) (by omega)
      rw [hw1]
      obtain ⟨y, hy⟩ : ∃ y : UInt8, IntKind.u8.wrap (32 + u) = (y.toNat : Int) := ⟨UInt8.ofNat ((32 + u)).toNat, by
        rw [IntKind.wrap_u8, UInt8.toNat_ofNat']
        omega⟩
      rw [hy]
      intro vb
      conv => whnf
      refine OOK.appendRowB y 1 encB_len rfl rfl rfl rfl (.inl ⟨_, rfl⟩) rfl (size := 1) (bytes := 1) rfl rfl rfl (by decide) rfl rfl hOb (Src.own (i := 2) (q := 0) (cs := encB y) (t := 5) (fr := (0, 0)) rfl rfl (fun j v hj => by simpa using hj)) (encB_one _) (by show (2 * (b.length + 1) + 1000) * 1 ≤ _; omega) ?_
      intro s' A' c' hO'
      conv => whnf
      refine ⟨⟨h4, b ++ [y], s', A', c'⟩, [0, 3], Sub.of (by decide) rfl ⟨rfl, ?_, rfl, int_eq ?_, trivial⟩, ⟨hh4, hO', ?_⟩, ?_⟩
      · show Value.slice A' (b.length + 1) c' = Value.slice A' (b ++ [_]).length c'
        rw [List.length_append]; rfl
      · rw [List.length_append]
        exact i64_in (by omega) (by omega)
      · show ((b ++ [y]).length : Int) ≤ r
        rw [List.length_append]
        simp only [List.length_cons, List.length_nil]
        omega
      · show (r - (b ++ [y]).length).toNat < (r - b.length).toNat
        rw [List.length_append]
        simp only [List.length_cons, List.length_nil]
        omega
  · conv => whnf
    refine OOK.rowF 1 hOb rfl fun g3 hg3 hrb => ?_
    conv => whnf
    refine OOK.toStr rfl rfl rfl rfl rfl hrb ?_
    conv => whnf
    exact .mk ⟨_, [0], _, rfl, by decide, rfl, ⟨rfl, trivial⟩, b, h2, rfl, by omega, hh2.mono hg3, rfl⟩
end Go.Proofs.YthkfnmmbjoadbaaGreatDoor
