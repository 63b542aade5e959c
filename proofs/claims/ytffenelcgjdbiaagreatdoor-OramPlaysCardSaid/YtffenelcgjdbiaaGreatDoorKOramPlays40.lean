/- Merged by a program of mine (pack.py) out of my own texts; what is not used is left out. -/
import Derived.Test.YtffenelcgjdbiaaGreatDoorKOramPlays39
set_option linter.unusedVariables false
set_option linter.unusedSimpArgs false
namespace Go.Sim
open Go
def By (l : List UInt8) : List V := l.map fun c => V.int .u8 (c.toNat : Int)
@[simp] theorem By_nil : By [] = [] := rfl
@[simp] theorem By_length (l : List UInt8) : (By l).length = l.length := by simp [By]
theorem By_append (l m : List UInt8) : By (l ++ m) = By l ++ By m := by simp [By]
theorem By_cons (n : UInt8) (l : List UInt8) : By (n :: l) = V.int .u8 (n.toNat : Int) :: By l := rfl
theorem By_one (n : UInt8) : [V.int .u8 (n.toNat : Int)] = By [n] := rfl
theorem By_take (l : List UInt8) (k : Nat) : (By l).take k = By (l.take k) := by simp [By, List.map_take]
theorem By_drop (l : List UInt8) (k : Nat) : (By l).drop k = By (l.drop k) := by simp [By, List.map_drop]
theorem By_get {l : List UInt8} {k : Nat} (h : k < l.length) : (By l)[k]? = some (V.int .u8 (l[k].toNat : Int)) := by simp [By, h]
theorem By_rep (k : Nat) : List.replicate k (V.int .u8 0) = By (List.replicate k 0) := by simp [By]
theorem By_flat (l : List UInt8) : flat (By l) = By l := by
  induction l with
  | nil => rfl
  | cons c l ih => show [V.int .u8 (c.toNat : Int)] ++ flat (By l) = _; rw [ih]; rfl
theorem By_wk (l : List UInt8) : (By l).map V.wk = By l := by simp [By, Function.comp_def, V.wk, V.wk1]
theorem By_wk1 (l : List UInt8) : (By l).map V.wk1 = By l := by simp [By, Function.comp_def, V.wk1]
theorem strOf_By (l : List UInt8) : strOf (By l) = some l := by
  induction l with
  | nil => rfl
  | cons c l ih =>
    rw [By_cons]
    simp only [strOf, ih, Option.bind_some]
    simp
theorem wrap_u8_of (n : Nat) : IntKind.u8.wrap (n : Int) = ((UInt8.ofNat n).toNat : Int) := by
  rw [wrap_u8_mod]; simp
structure Own (a st : St) (c : Cap) : Prop where
  le : a.le st
  fr : fresh a c
  can : canApp st c = true
theorem Own.nil {a st : St} (h : a.le st) : Own a st .nil := ⟨h, trivial, rfl⟩
theorem Own.exact {a st : St} (h : a.le st) : Own a st .exact := ⟨h, trivial, rfl⟩
theorem Own.full {a st : St} (h : a.le st) : Own a st .full := ⟨h, trivial, rfl⟩
theorem Own.app {a st st' : St} {c c' : Cap} {m : List V} (h : Own a st c) (k : Apd st c m c' st') : Own a st' c' := by
  obtain ⟨rfl, rfl⟩ := k
  exact ⟨h.le.app h.fr m, fresh_app h.le h.fr m, canApp_app _ _ _ h.can⟩
theorem Own.has {a st : St} {c : Cap} {n : Nat} (h : Own a st c) (k : n ≤ 140737488355328) : hasApp st c n := ⟨h.can, k⟩
theorem Own.trans {a b st : St} {c : Cap} (h : a.le b) (k : Own b st c) : Own a st c := by
  refine ⟨h.trans k.le, ?_, k.can⟩
  have := k.fr
  cases c with
  | tail t => exact Nat.le_trans h.next this
  | _ => exact this
theorem Own.step {a st st' : St} {c : Cap} (h : Own a st c) (k : st.le st') : Own a st' c := ⟨h.le.trans k, h.fr, k.can h.can⟩
theorem Apd.cells {st st' : St} {c c' : Cap} {m : List V} (h : Apd st c m c' st') : st'.cells = st.cells := by rw [h.st, appSt_cells]
theorem Apd.maps {st st' : St} {c c' : Cap} {m : List V} (h : Apd st c m c' st') : st'.maps = st.maps := by rw [h.st, appSt_maps]
theorem br {p : Prop} [Decidable p] {A B : Prop} (h : p → A) (k : ¬ p → B) : (decide p = true → A) ∧ (decide p = false → B) :=
  ⟨fun e => h (of_decide_eq_true e), fun e => k (of_decide_eq_false e)⟩
theorem br' {p : Prop} [Decidable p] {A B : Prop} (h : ¬ p → A) (k : p → B) : (decide p = false → A) ∧ (decide p = true → B) :=
  ⟨fun e => h (of_decide_eq_false e), fun e => k (of_decide_eq_true e)⟩
theorem brb {b : Bool} {A B : Prop} (h : b = true → A) (k : b = false → B) : (b = true → A) ∧ (b = false → B) := ⟨h, k⟩
theorem brne {x y : Int} {A B : Prop} (h : x ≠ y → A) (k : x = y → B) : ((x != y) = true → A) ∧ ((x != y) = false → B) :=
  ⟨fun e => h (by simpa using e), fun e => k (by simpa using e)⟩
theorem breq {x y : Int} {A B : Prop} (h : x = y → A) (k : x ≠ y → B) : ((x == y) = true → A) ∧ ((x == y) = false → B) :=
  ⟨fun e => h (by simpa using e), fun e => k (by simpa using e)⟩
theorem w64 {n : Int} (h : -9223372036854775808 ≤ n ∧ n ≤ 9223372036854775807) : IntKind.i64.wrap n = n := wrap_i64 h.1 h.2
theorem wu64 {n : Int} (h : 0 ≤ n ∧ n < 18446744073709551616) : IntKind.u64.wrap n = n := wrap_u64 h.1 h.2
theorem wu32 {n : Int} (h : 0 ≤ n ∧ n < 4294967296) : IntKind.u32.wrap n = n := wrap_u32 h.1 h.2
theorem fdiv_pow (n k : Nat) : ((n : Nat) : Int).fdiv ((2 : Int) ^ k) = ((n / 2 ^ k : Nat) : Int) := by
  have : ((2 : Int) ^ k) = ((2 ^ k : Nat) : Int) := by simp
  rw [this, ← Int.ofNat_fdiv]
theorem or_64 (a b : Nat) (ha : a < 2 ^ 64) (hb : b < 2 ^ 64) : ior .u64 (a : Int) (b : Int) = ((a ||| b : Nat) : Int) := by
  have h1 : a ||| b < 2 ^ 64 := Nat.or_lt_two_pow ha hb
  unfold ior
  rw [show IntKind.u64.bits = 64 from rfl, wrap_u64_mod, BitVec.toNat_or, BitVec.toNat_ofInt, BitVec.toNat_ofInt]
  rw [show ((a : Int) % ((2 ^ 64 : Nat) : Int)).toNat = a by omega, show ((b : Int) % ((2 ^ 64 : Nat) : Int)).toNat = b by omega]
  omega
theorem xor_64 (a b : Nat) (ha : a < 2 ^ 64) (hb : b < 2 ^ 64) : ixor .u64 (a : Int) (b : Int) = ((a ^^^ b : Nat) : Int) := by
  have h1 : a ^^^ b < 2 ^ 64 := Nat.xor_lt_two_pow ha hb
  unfold ixor
  rw [show IntKind.u64.bits = 64 from rfl, wrap_u64_mod, BitVec.toNat_xor, BitVec.toNat_ofInt, BitVec.toNat_ofInt]
  rw [show ((a : Int) % ((2 ^ 64 : Nat) : Int)).toNat = a by omega, show ((b : Int) % ((2 ^ 64 : Nat) : Int)).toNat = b by omega]
  omega
theorem and_64 (a b : Nat) (ha : a < 2 ^ 64) (hb : b < 2 ^ 64) : iand .u64 (a : Int) (b : Int) = ((a &&& b : Nat) : Int) := by
  have h1 : a &&& b < 2 ^ 64 := Nat.and_lt_two_pow _ hb
  unfold iand
  rw [show IntKind.u64.bits = 64 from rfl, wrap_u64_mod, BitVec.toNat_and, BitVec.toNat_ofInt, BitVec.toNat_ofInt]
  rw [show ((a : Int) % ((2 ^ 64 : Nat) : Int)).toNat = a by omega, show ((b : Int) % ((2 ^ 64 : Nat) : Int)).toNat = b by omega]
  omega
theorem or_32 (a b : Nat) (ha : a < 2 ^ 32) (hb : b < 2 ^ 32) : ior .u32 (a : Int) (b : Int) = ((a ||| b : Nat) : Int) := by
  have h1 : a ||| b < 2 ^ 32 := Nat.or_lt_two_pow ha hb
  unfold ior
  rw [show IntKind.u32.bits = 32 from rfl, wrap_u32_mod, BitVec.toNat_or, BitVec.toNat_ofInt, BitVec.toNat_ofInt]
  rw [show ((a : Int) % ((2 ^ 32 : Nat) : Int)).toNat = a by omega, show ((b : Int) % ((2 ^ 32 : Nat) : Int)).toNat = b by omega]
  omega
theorem xor_32 (a b : Nat) (ha : a < 2 ^ 32) (hb : b < 2 ^ 32) : ixor .u32 (a : Int) (b : Int) = ((a ^^^ b : Nat) : Int) := by
  have h1 : a ^^^ b < 2 ^ 32 := Nat.xor_lt_two_pow ha hb
  unfold ixor
  rw [show IntKind.u32.bits = 32 from rfl, wrap_u32_mod, BitVec.toNat_xor, BitVec.toNat_ofInt, BitVec.toNat_ofInt]
  rw [show ((a : Int) % ((2 ^ 32 : Nat) : Int)).toNat = a by omega, show ((b : Int) % ((2 ^ 32 : Nat) : Int)).toNat = b by omega]
  omega
theorem xor_8 (a b : UInt8) : ixor .u8 (a.toNat : Int) (b.toNat : Int) = (((a ^^^ b).toNat : Nat) : Int) := by
  have h1 := a.toNat_lt
  have h2 := b.toNat_lt
  have h3 : a.toNat ^^^ b.toNat < 2 ^ 8 := Nat.xor_lt_two_pow h1 h2
  unfold ixor
  rw [show IntKind.u8.bits = 8 from rfl, wrap_u8_mod, BitVec.toNat_xor, BitVec.toNat_ofInt, BitVec.toNat_ofInt]
  rw [show ((a.toNat : Int) % ((2 ^ 8 : Nat) : Int)).toNat = a.toNat by omega, show ((b.toNat : Int) % ((2 ^ 8 : Nat) : Int)).toNat = b.toNat by omega]
  rw [UInt8.toNat_xor]
  omega
def Gives (P : Program) (f : FuncId) (args : List V) (v : V) : Prop := ∀ st, RCall P f args st fun r st' => r = .ret v ∧ st.le st'
def Makes (P : Program) (f : FuncId) (args : List V) (sz : Nat) (l : List V) : Prop := ∀ st, RCall P f args st fun r st' => ∃ c, r = .ret (.lst sz l c) ∧ Own st st' c
theorem ldv1 {st : St} {id off : Nat} {cs : List V} {v : V} (h : st.cells id = some cs) (hv : cs[off]? = some v) : st.ldv id off 1 false = some v := by
  have hlt := (List.getElem?_eq_some_iff.1 hv).1
  simp only [St.ldv, h, Option.bind_some, aggOr]
  rw [if_pos (by omega)]
  simp [List.getElem?_take, hv]
theorem ldvg {st : St} {id n : Nat} {cs : List V} (h : st.cells id = some cs) (hn : cs.length = n) : st.ldv id 0 n true = some (.agg cs) := by
  simp only [St.ldv, h, Option.bind_some, aggOr]
  rw [if_pos (by omega)]
  simp [List.take_of_length_le (show cs.length ≤ n by omega)]
theorem ldvp {st : St} {id off n : Nat} {cs : List V} (h : st.cells id = some cs) (hn : off + n ≤ cs.length) : st.ldv id off n true = some (.agg ((cs.drop off).take n)) := by
  simp only [St.ldv, h, Option.bind_some, aggOr]
  rw [if_pos hn]
  rfl
theorem cells_new (st : St) (cs : List V) : (st.newC cs).cells st.next = some cs := by simp
theorem cells_new' {st : St} {id : Nat} {cs cs' : List V} (h : st.cells id = some cs') : (st.newC cs).cells id = some cs' := (St.le_newC st cs).getC h
theorem cells_set {st : St} {id : Nat} {cs cs' : List V} (h : st.cells id = some cs) : (st.setC id cs').cells id = some cs' := by simp [h]
theorem cells_set' {st : St} {id k : Nat} {cs cs' : List V} (h : st.cells k = some cs) (hk : k ≠ id) : (st.setC id cs').cells k = some cs := by simp [hk, h]
theorem cells_kill {st : St} {id k : Nat} {cs : List V} (h : st.cells k = some cs) (hk : k ≠ id) : (st.killC id).newT.cells k = some cs := by
  show (st.killC id).cells k = some cs
  simp [hk, h]
theorem St.le.new {a st : St} (h : a.le st) (cs : List V) : a.le (st.newC cs) := h.trans (St.le_newC st cs)
theorem St.le.newM {a st : St} (h : a.le st) : a.le st.newM := h.trans (St.le_newM st)
theorem St.le.newT {a st : St} (h : a.le st) : a.le st.newT := h.trans (St.le_newT st)
theorem St.le.set {a st : St} (h : a.le st) {id : Nat} (hi : a.next ≤ id) (cs : List V) : a.le (st.setC id cs) :=
  ⟨h.next, fun i hlt => by rw [setC_cells, if_neg (by omega)]; exact h.cells i hlt, h.maps, h.tok⟩
theorem St.le.kill {a st : St} (h : a.le st) {id : Nat} (hi : a.next ≤ id) : a.le (st.killC id) :=
  ⟨h.next, fun i hlt => by rw [killC_cells, if_neg (by omega)]; exact h.cells i hlt, h.maps, h.tok⟩
theorem repl_all' {cs vs : List V} (h : vs.length = cs.length) : repl cs 0 vs = vs := repl_all cs vs h
theorem Own.frz {a st : St} (h : a.le st) {id : Nat} (hi : a.next ≤ id) : Own a (st.killC id).newT (.tail st.next) :=
  ⟨(h.kill hi).newT, h.next, by simp [canApp, St.newT, St.killC]⟩
theorem spare_u8 (n k : Nat) : spare (.int .u8 0) n k = By (List.replicate (k - n) 0) := by
  rw [← By_rep]
  unfold spare
  generalize k - n = m
  induction m with
  | zero => rfl
  | succ m ih => rw [List.replicate_succ, List.flatten_cons, ih]; rfl
theorem frz_By {cap : Nat} {l sp : List UInt8} (hc : l.length + sp.length = cap) : frzL false 1 0 l.length cap (By (l ++ sp)) = some (By l) := by
  unfold frzL frz0
  rw [if_pos ⟨by omega, by simp; omega, .inr rfl⟩]
  simp only [Bool.false_eq_true, if_false, Option.map_some, List.drop_zero, By_take, List.take_left, By_wk]
theorem tdiv_nat (n m : Nat) : Int.tdiv (n : Int) (m : Int) = ((n / m : Nat) : Int) := rfl
end Go.Sim
