/- Merged by a program of mine (pack.py) out of my own texts; what is not used is left out. -/
import Derived.WalkKit
import Derived.Below
import Derived.MapKept
set_option linter.unusedVariables false
set_option linter.unusedSimpArgs false
namespace Go.Sim
open Go
inductive Cap where
  | nil | exact | tail (t : Nat) | unk | full
  deriving DecidableEq, Inhabited
inductive V where
  | bool (b : Bool)
  | int (k : IntKind) (n : Int)
  | float (k : FloatKind) (bits : Nat)
  | str (s : List UInt8)
  | nilp
  | ptr (id off : Nat)
  | ep (cells : List V)
  | lst (sz : Nat) (l : List V) (c : Cap)
  | ref (sz id off len cap : Nat)
  | nilm
  | map (id : Nat)
  | nilf
  | fn (f : FuncId) (captured : List V)
  | nili
  | iface (t : TypeId) (v : V)
  | agg (cells : List V)
  | tup (vs : List V)
  deriving Inhabited
def V.cells : V → List V
  | .agg cs => cs
  | v => [v]
def V.one : V → Bool
  | .agg _ => false
  | .tup _ => false
  | _ => true
def V.notTup : V → Bool
  | .tup _ => false
  | _ => true
def flat (l : List V) : List V := l.flatMap V.cells
structure TokI where
  blk : Nat
  fill : Nat
  lim : Nat
structure G where
  lo : Nat
  obj : Nat → Option Nat
  tok : Nat → Option TokI
  imm : Nat → Nat → Option Value
structure G.le (g h : G) : Prop where
  lo : h.lo = g.lo
  obj : ∀ i b, g.obj i = some b → h.obj i = some b
  tok : ∀ i b, g.tok i = some b → h.tok i = some b
  imm : ∀ b o v, g.imm b o = some v → h.imm b o = some v
theorem G.le.refl (g : G) : g.le g := ⟨rfl, fun _ _ h => h, fun _ _ h => h, fun _ _ _ h => h⟩
theorem G.le.trans {a b c : G} (h : a.le b) (k : b.le c) : a.le c :=
  ⟨k.lo.trans h.lo, fun _ _ x => k.obj _ _ (h.obj _ _ x), fun _ _ x => k.tok _ _ (h.tok _ _ x), fun _ _ _ x => k.imm _ _ _ (h.imm _ _ _ x)⟩
def LR (R : V → Value → Prop) (l : List V) (m : List Value) : Prop :=
  l.length = m.length ∧ ∀ (i : Nat) v c, l[i]? = some v → m[i]? = some c → R v c
def ImmB (g : G) (base : Option Addr) (cvs : List Value) : Prop :=
  ∀ (j : Nat) c, cvs[j]? = some c → ∃ b o, base = some ⟨b, o, none⟩ ∧ g.imm b (o + j) = some c
def CapOk (g : G) (sz n : Nat) : Cap → Option Addr → Nat → Prop
  | .nil, base, cap => base = none ∧ n = 0 ∧ cap = 0
  | .exact, base, cap => (∃ b o, base = some ⟨b, o, none⟩ ∧ g.lo ≤ b) ∧ cap = n
  | .tail t, base, cap => ∃ b o lim, base = some ⟨b, o, none⟩ ∧ g.tok t = some ⟨b, o + n * sz, lim⟩ ∧ n ≤ cap ∧ o + cap * sz ≤ lim ∧ g.lo ≤ b
  | .unk, base, cap => (base = none ∨ (∃ b o, base = some ⟨b, o, none⟩) ∨ cap = 0) ∧ n ≤ cap
  | .full, base, cap => (base = none ∨ (∃ b o, base = some ⟨b, o, none⟩) ∨ cap = 0) ∧ cap = n
def FEq (k : FloatKind) (a b : Nat) : Prop := a = b ∨ ((k.decode a).isNaN = true ∧ (k.decode b).isNaN = true)
inductive VRel (g : G) : V → Value → Prop
  | bool (b : Bool) : VRel g (.bool b) (.bool b)
  | int (k : IntKind) (n : Int) : VRel g (.int k n) (.int k n)
  | float {k : FloatKind} {a b : Nat} (h : FEq k a b) : VRel g (.float k a) (.float k b)
  | str {l : List UInt8} {s : ByteArray} (h : s.data.toList = l) : VRel g (.str l) (.string s)
  | nilp : VRel g .nilp (.pointer none)
  | ptr {id off b : Nat} (h : g.obj id = some b) : VRel g (.ptr id off) (.pointer (some ⟨b, off, none⟩))
  | ep {cs : List V} {b o : Nat} {cvs : List Value} (ho : ∀ v ∈ cs, v.one = true) (hi : ImmB g (some ⟨b, o, none⟩) cvs) (hl : cs.length = cvs.length)
      (hr : ∀ (i : Nat) v c, cs[i]? = some v → cvs[i]? = some c → VRel g v c) : VRel g (.ep cs) (.pointer (some ⟨b, o, none⟩))
  | lst {sz : Nat} {l : List V} {c : Cap} {base : Option Addr} {n cap : Nat} {cvs : List Value} (hn : n = l.length) (hs : ∀ e ∈ l, e.cells.length = sz) (ho : ∀ v ∈ flat l, v.one = true)
      (hc : CapOk g sz n c base cap) (hi : ImmB g base cvs) (hl : (flat l).length = cvs.length)
      (hr : ∀ (i : Nat) v c, (flat l)[i]? = some v → cvs[i]? = some c → VRel g v c) : VRel g (.lst sz l c) (.slice base n cap)
  | ref {sz id off len cap b : Nat} (h : g.obj id = some b) (hc : len ≤ cap) : VRel g (.ref sz id off len cap) (.slice (some ⟨b, off, none⟩) len cap)
  | nilm : VRel g .nilm (.map none)
  | map {id b : Nat} (h : g.obj id = some b) : VRel g (.map id) (.map (some b))
  | nilf : VRel g .nilf .nilFunc
  | fn {f : FuncId} {cs : List V} {cvs : Array Value} (hl : cs.length = cvs.toList.length)
      (hr : ∀ (i : Nat) v c, cs[i]? = some v → cvs.toList[i]? = some c → VRel g v c) : VRel g (.fn f cs) (.func (.func f) #[] cvs)
  | nili : VRel g .nili .nilIface
  | iface {t : TypeId} {v : V} {c : Value} (h : VRel g v c) : VRel g (.iface t v) (.iface t c)
  | agg {cs : List V} {cvs : Array Value} (ho : ∀ v ∈ cs, v.one = true) (hl : cs.length = cvs.toList.length)
      (hr : ∀ (i : Nat) v c, cs[i]? = some v → cvs.toList[i]? = some c → VRel g v c) : VRel g (.agg cs) (.agg cvs)
  | tup {cs : List V} {cvs : Array Value} (hl : cs.length = cvs.toList.length)
      (hr : ∀ (i : Nat) v c, cs[i]? = some v → cvs.toList[i]? = some c → VRel g v c) : VRel g (.tup cs) (.tuple cvs)
theorem ImmB.mono {g h : G} (H : g.le h) {base : Option Addr} {cvs : List Value} (x : ImmB g base cvs) : ImmB h base cvs := by
  intro j c hj
  obtain ⟨b, o, hb, hi⟩ := x j c hj
  exact ⟨b, o, hb, H.imm _ _ _ hi⟩
theorem CapOk.mono {g h : G} (H : g.le h) {sz n : Nat} {c : Cap} {base : Option Addr} {cap : Nat} (x : CapOk g sz n c base cap) : CapOk h sz n c base cap := by
  cases c with
  | nil => exact x
  | exact =>
    obtain ⟨⟨b, o, hb, hl⟩, hc⟩ := x
    exact ⟨⟨b, o, hb, by rw [H.lo]; exact hl⟩, hc⟩
  | unk => exact x
  | full => exact x
  | tail t =>
    obtain ⟨b, o, lim, hb, ht, h1, h2, h3⟩ := x
    exact ⟨b, o, lim, hb, H.tok _ _ ht, h1, h2, by rw [H.lo]; exact h3⟩
theorem VRel.mono {g h : G} (H : g.le h) {v : V} {c : Value} (x : VRel g v c) : VRel h v c := by
  induction x with
  | bool b => exact .bool b
  | int k n => exact .int k n
  | float e => exact .float e
  | str e => exact .str e
  | nilp => exact .nilp
  | ptr e => exact .ptr (H.obj _ _ e)
  | ep ho hi hl hr ih => exact .ep ho (hi.mono H) hl ih
  | lst hn hs ho hc hi hl hr ih => exact .lst hn hs ho (hc.mono H) (hi.mono H) hl ih
  | ref e hc => exact .ref (H.obj _ _ e) hc
  | nilm => exact .nilm
  | map e => exact .map (H.obj _ _ e)
  | nilf => exact .nilf
  | fn hl hr ih => exact .fn hl ih
  | nili => exact .nili
  | iface e ih => exact .iface ih
  | agg ho hl hr ih => exact .agg ho hl ih
  | tup hl hr ih => exact .tup hl ih
theorem LR.mono {g h : G} (H : g.le h) {l : List V} {m : List Value} (x : LR (VRel g) l m) : LR (VRel h) l m :=
  ⟨x.1, fun i v c hv hc => (x.2 i v c hv hc).mono H⟩
section LRs
variable {R : V → Value → Prop}
theorem LR.nil : LR R [] [] := ⟨rfl, fun i v c h => by simp at h⟩
theorem LR.cons {v : V} {c : Value} {l : List V} {m : List Value} (h : R v c) (k : LR R l m) : LR R (v :: l) (c :: m) := by
  refine ⟨by simp [k.1], fun i x y hx hy => ?_⟩
  cases i with
  | zero => simp at hx hy; subst hx hy; exact h
  | succ i => exact k.2 i x y (by simpa using hx) (by simpa using hy)
theorem LR.head {v : V} {c : Value} {l : List V} {m : List Value} (h : LR R (v :: l) (c :: m)) : R v c := h.2 0 v c rfl rfl
theorem LR.tail {v : V} {c : Value} {l : List V} {m : List Value} (h : LR R (v :: l) (c :: m)) : LR R l m :=
  ⟨by simpa using h.1, fun i x y hx hy => h.2 (i + 1) x y (by simpa using hx) (by simpa using hy)⟩
theorem LR.one {v : V} {c : Value} (h : R v c) : LR R [v] [c] := LR.cons h LR.nil
theorem LR.append {l l' : List V} {m m' : List Value} (h : LR R l m) (k : LR R l' m') : LR R (l ++ l') (m ++ m') := by
  refine ⟨by simp [h.1, k.1], fun i x y hx hy => ?_⟩
  rcases Nat.lt_or_ge i l.length with hi | hi
  · rw [List.getElem?_append_left hi] at hx
    rw [List.getElem?_append_left (h.1 ▸ hi)] at hy
    exact h.2 i x y hx hy
  · rw [List.getElem?_append_right hi] at hx
    rw [List.getElem?_append_right (h.1 ▸ hi)] at hy
    exact k.2 _ x y hx (h.1 ▸ hy)
theorem LR.take {l : List V} {m : List Value} (h : LR R l m) (n : Nat) : LR R (l.take n) (m.take n) := by
  refine ⟨by simp [h.1], fun i x y hx hy => ?_⟩
  rw [List.getElem?_take] at hx hy
  split at hx
  · rename_i hi
    rw [if_pos hi] at hy
    exact h.2 i x y hx hy
  · simp at hx
theorem LR.drop {l : List V} {m : List Value} (h : LR R l m) (n : Nat) : LR R (l.drop n) (m.drop n) := by
  refine ⟨by simp [h.1], fun i x y hx hy => ?_⟩
  rw [List.getElem?_drop] at hx hy
  exact h.2 _ x y hx hy
theorem LR.set {l : List V} {m : List Value} (h : LR R l m) (n : Nat) {v : V} {c : Value} (k : R v c) : LR R (l.set n v) (m.set n c) := by
  refine ⟨by simp [h.1], fun i x y hx hy => ?_⟩
  rw [List.getElem?_set] at hx hy
  split at hx
  · rename_i hi
    rw [if_pos hi] at hy
    split at hx
    · rename_i hlt
      rw [if_pos (h.1 ▸ hlt)] at hy
      simp at hx hy; subst hx hy; exact k
    · simp at hx
  · rename_i hi
    rw [if_neg hi] at hy
    exact h.2 i x y hx hy
theorem LR.get {l : List V} {m : List Value} (h : LR R l m) {i : Nat} {v : V} (hv : l[i]? = some v) : ∃ c, m[i]? = some c ∧ R v c := by
  have hi : i < m.length := by
    have := (List.getElem?_eq_some_iff.1 hv).1
    rw [h.1] at this; exact this
  exact ⟨m[i], List.getElem?_eq_getElem hi, h.2 i v _ hv (List.getElem?_eq_getElem hi)⟩
theorem LR.nil_left {m : List Value} (h : LR R [] m) : m = [] := by
  have := h.1; cases m with | nil => rfl | cons => simp at this
theorem LR.cons_left {v : V} {l : List V} {m : List Value} (h : LR R (v :: l) m) : ∃ c m', m = c :: m' ∧ R v c ∧ LR R l m' := by
  cases m with
  | nil => have := h.1; simp at this
  | cons c m' => exact ⟨c, m', rfl, h.head, h.tail⟩
end LRs
theorem VRel.cells {g : G} {v : V} {c : Value} (h : VRel g v c) : LR (VRel g) v.cells c.cells.toList := by
  cases h with
  | agg ho hl hr => exact ⟨hl, hr⟩
  | bool b => exact LR.one (.bool b)
  | int k n => exact LR.one (.int k n)
  | float e => exact LR.one (.float e)
  | str e => exact LR.one (.str e)
  | nilp => exact LR.one .nilp
  | ptr e => exact LR.one (.ptr e)
  | ep ho hi hl hr => exact LR.one (.ep ho hi hl hr)
  | lst hn hs ho hc hi hl hr => exact LR.one (.lst hn hs ho hc hi hl hr)
  | ref e hc => exact LR.one (.ref e hc)
  | nilm => exact LR.one .nilm
  | map e => exact LR.one (.map e)
  | nilf => exact LR.one .nilf
  | fn hl hr => exact LR.one (.fn hl hr)
  | nili => exact LR.one .nili
  | iface e => exact LR.one (.iface e)
  | tup hl hr => exact LR.one (.tup hl hr)
theorem VRel.ones {g : G} {v : V} {c : Value} (h : VRel g v c) (hn : v.notTup = true) : ∀ x ∈ v.cells, x.one = true := by
  cases h with
  | agg ho hl hr => exact ho
  | tup hl hr => simp [V.notTup] at hn
  | _ => intro x hx; simp [V.cells] at hx; subst hx; rfl
theorem VRel.oneCell {g : G} {v : V} {c : Value} (h : VRel g v c) (hn : v.one = true) : c.oneCell' = true := by
  cases h <;> first | rfl | (simp [V.one] at hn)
theorem LR.oneCells {g : G} {l : List V} {m : List Value} (h : LR (VRel g) l m) (ho : ∀ v ∈ l, v.one = true) : ∀ c ∈ m, c.oneCell' = true := by
  intro c hc
  obtain ⟨i, hi⟩ := List.getElem?_of_mem hc
  have hlt : i < l.length := by rw [h.1]; exact (List.getElem?_eq_some_iff.1 hi).1
  exact (h.2 i _ c (List.getElem?_eq_getElem hlt) hi).oneCell (ho _ (List.getElem_mem hlt))
def V.wk1 : V → V
  | .lst sz l _ => .lst sz l .unk
  | v => v
def V.wk : V → V
  | .agg cs => .agg (cs.map V.wk1)
  | v => v.wk1
theorem CapOk.wk {g : G} {sz n : Nat} {c : Cap} {base : Option Addr} {cap : Nat} (h : CapOk g sz n c base cap) : CapOk g sz n .unk base cap := by
  cases c with
  | nil => obtain ⟨h1, h2, h3⟩ := h; exact ⟨.inl h1, by omega⟩
  | exact => obtain ⟨⟨b, o, h1, _⟩, h2⟩ := h; exact ⟨.inr (.inl ⟨b, o, h1⟩), by omega⟩
  | tail t => obtain ⟨b, o, _, h1, _, h2, _⟩ := h; exact ⟨.inr (.inl ⟨b, o, h1⟩), h2⟩
  | unk => exact h
  | full => exact ⟨h.1, by have := h.2; omega⟩
theorem VRel.wk1 {g : G} {v : V} {c : Value} (h : VRel g v c) : VRel g v.wk1 c := by
  cases h with
  | lst hn hs ho hc hi hl hr => exact .lst hn hs ho hc.wk hi hl hr
  | bool b => exact .bool b
  | int k n => exact .int k n
  | float e => exact .float e
  | str e => exact .str e
  | nilp => exact .nilp
  | ptr e => exact .ptr e
  | ep ho hi hl hr => exact .ep ho hi hl hr
  | agg ho hl hr => exact .agg ho hl hr
  | ref e hc => exact .ref e hc
  | nilm => exact .nilm
  | map e => exact .map e
  | nilf => exact .nilf
  | fn hl hr => exact .fn hl hr
  | nili => exact .nili
  | iface e => exact .iface e
  | tup hl hr => exact .tup hl hr
@[simp] theorem wk1_one (v : V) : v.wk1.one = v.one := by cases v <;> rfl
@[simp] theorem wk_notTup (v : V) : v.wk.notTup = v.notTup := by cases v <;> rfl
theorem LR.wk1 {g : G} {l : List V} {m : List Value} (h : LR (VRel g) l m) : LR (VRel g) (l.map V.wk1) m := by
  refine ⟨by rw [List.length_map]; exact h.1, fun i v c hv hc => ?_⟩
  rw [List.getElem?_map] at hv
  cases hx : l[i]? with
  | none => rw [hx] at hv; cases hv
  | some u => rw [hx] at hv; cases hv; exact (h.2 i u c hx hc).wk1
theorem VRel.wk {g : G} {v : V} {c : Value} (h : VRel g v c) : VRel g v.wk c := by
  cases v with
  | agg cs =>
    cases h with
    | agg ho hl hr =>
      have := LR.wk1 (g := g) ⟨hl, hr⟩
      refine .agg (fun v hv => ?_) this.1 this.2
      obtain ⟨u, hu, rfl⟩ := List.mem_map.1 hv
      rw [wk1_one]; exact ho u hu
  | _ => exact h.wk1
theorem wk_cells (v : V) : v.wk.cells = v.cells.map V.wk1 := by cases v <;> rfl
theorem flat_wk (l : List V) : flat (l.map V.wk) = (flat l).map V.wk1 := by
  simp only [flat, List.flatMap_map, wk_cells, List.map_flatMap]
theorem VRel.dwk {g : G} {sz : Nat} {l : List V} {c : Cap} {x : Value} (h : VRel g (.lst sz l c) x) : VRel g (.lst sz (l.map V.wk) c) x := by
  cases h with
  | lst hn hs ho hc hi hl hr =>
    have := LR.wk1 (g := g) ⟨hl, hr⟩
    rw [← flat_wk] at this
    refine .lst (by rw [List.length_map]; exact hn) (fun e he => ?_) (fun v hv => ?_) hc hi this.1 this.2
    · obtain ⟨u, hu, rfl⟩ := List.mem_map.1 he
      rw [wk_cells, List.length_map]; exact hs u hu
    · rw [flat_wk] at hv
      obtain ⟨u, hu, rfl⟩ := List.mem_map.1 hv
      rw [wk1_one]; exact ho u hu
structure St where
  next : Nat
  cells : Nat → Option (List V)
  maps : Nat → Option (List (V × V))
  tok : Nat → Bool
  wf : ∀ id, next ≤ id → cells id = none ∧ maps id = none ∧ tok id = false
def upd {α : Type} (f : Nat → α) (i : Nat) (a : α) : Nat → α := fun j => if j = i then a else f j
@[simp] theorem upd_same {α : Type} (f : Nat → α) (i : Nat) (a : α) : upd f i a i = a := by simp [upd]
theorem upd_ne {α : Type} (f : Nat → α) {i j : Nat} (a : α) (h : j ≠ i) : upd f i a j = f j := by simp [upd, h]
def St.newC (st : St) (cs : List V) : St where
  next := st.next + 1
  cells := upd st.cells st.next (some cs)
  maps := st.maps
  tok := st.tok
  wf id h := by rw [upd_ne _ _ (by omega)]; exact st.wf id (by omega)
def St.newM (st : St) : St where
  next := st.next + 1
  cells := st.cells
  maps := upd st.maps st.next (some [])
  tok := st.tok
  wf id h := by rw [upd_ne _ _ (by omega)]; exact st.wf id (by omega)
def St.newT (st : St) : St where
  next := st.next + 1
  cells := st.cells
  maps := st.maps
  tok := upd st.tok st.next true
  wf id h := by rw [upd_ne _ _ (by omega)]; exact st.wf id (by omega)
def St.setC (st : St) (id : Nat) (cs : List V) : St where
  next := st.next
  cells := upd st.cells id ((st.cells id).map fun _ => cs)
  maps := st.maps
  tok := st.tok
  wf k h := by
    obtain ⟨h1, h2, h3⟩ := st.wf k h
    refine ⟨?_, h2, h3⟩
    by_cases e : k = id
    · subst e; simp [h1]
    · rw [upd_ne _ _ e]; exact h1
def St.setM (st : St) (id : Nat) (m : List (V × V)) : St where
  next := st.next
  cells := st.cells
  maps := upd st.maps id ((st.maps id).map fun _ => m)
  tok := st.tok
  wf k h := by
    obtain ⟨h1, h2, h3⟩ := st.wf k h
    refine ⟨h1, ?_, h3⟩
    by_cases e : k = id
    · subst e; simp [h2]
    · rw [upd_ne _ _ e]; exact h2
def St.killT (st : St) (t : Nat) : St where
  next := st.next
  cells := st.cells
  maps := st.maps
  tok := upd st.tok t false
  wf k h := by
    obtain ⟨h1, h2, h3⟩ := st.wf k h
    refine ⟨h1, h2, ?_⟩
    by_cases e : k = t
    · subst e; simp
    · rw [upd_ne _ _ e]; exact h3
def St.live (st : St) (id : Nat) : Prop := (st.cells id).isSome ∨ (st.maps id).isSome
def Free (fr : Nat × Nat) (n : Nat) : Prop := fr.1 = fr.2 ∨ n ≤ fr.1
theorem Free.not {fr : Nat × Nat} {n : Nat} (h : Free fr n) (o : Nat) (ho : o < n) : ¬ (fr.1 ≤ o ∧ o < fr.2) := by
  rcases h with h | h <;> omega
def MR (g : G) (m : List (V × V)) (es : List MapEntry) : Prop :=
  LR (VRel g) (m.map (·.1)) (es.map (·.key)) ∧ LR (VRel g) (m.map (·.2)) (es.map (·.val))
structure Env where
  n : Nat
  gl : List (Nat × List Value)
structure WRel (B : Env) (g : G) (st : St) (w : World) : Prop where
  base : B.n ≤ w.heap.size
  fresh0 : ∀ id, st.next ≤ id → g.obj id = none ∧ g.tok id = none
  blkO : ∀ id b, g.obj id = some b → B.n ≤ b ∧ b < w.heap.size
  blkT : ∀ t i, g.tok t = some i → B.n ≤ i.blk ∧ i.blk < w.heap.size
  inj : ∀ i j b, st.live i → st.live j → g.obj i = some b → g.obj j = some b → i = j
  objTok : ∀ i b t k, st.live i → st.tok t = true → g.obj i = some b → g.tok t = some k → k.blk ≠ b
  noImm : ∀ i b o, st.live i → g.obj i = some b → g.imm b o = none
  cells : ∀ id cs, st.cells id = some cs → ∃ b cvs e fr, g.obj id = some b ∧ w.heap[b]? = some (.cells cvs e fr) ∧ Free fr cvs.size ∧ LR (VRel g) cs cvs.toList ∧ ∀ v ∈ cs, v.one = true
  maps : ∀ id m, st.maps id = some m → ∃ b es clock, g.obj id = some b ∧ w.heap[b]? = some (.map es clock) ∧ MR g m es.toList ∧ MapKept.Stamped es clock
  imm : ∀ b o v, g.imm b o = some v → w.cell? ⟨b, o, none⟩ = some v
  tok : ∀ t, st.tok t = true → ∃ i cvs e fr, g.tok t = some i ∧ w.heap[i.blk]? = some (.cells cvs e fr) ∧ Free fr cvs.size ∧ i.lim ≤ cvs.size ∧ ∀ o, i.fill ≤ o → g.imm i.blk o = none
  tokInj : ∀ t u i j, st.tok t = true → st.tok u = true → g.tok t = some i → g.tok u = some j → i.blk = j.blk → t = u
  lo : g.lo = B.n
  glob : ∀ k cs, (k, cs) ∈ B.gl → ∀ (j : Nat) c, cs[j]? = some c → g.imm k j = some c
theorem WRel.fresh {B : Env} {g : G} {st : St} {w : World} (h : WRel B g st w) (id : Nat) (k : st.next ≤ id) : g.obj id = none ∧ g.tok id = none ∧ st.cells id = none ∧ st.maps id = none ∧ st.tok id = false :=
  ⟨(h.fresh0 id k).1, (h.fresh0 id k).2, st.wf id k⟩
def Wk (o o' : Option Obj) : Prop := o' = o ∨ ∃ c e fr fr', o = some (.cells c e fr) ∧ o' = some (.cells c e fr') ∧ (Free fr c.size → Free fr' c.size)
theorem Wk.trans {a b c : Option Obj} (h : Wk a b) (k : Wk b c) : Wk a c := by
  rcases h with rfl | ⟨x, e, f, f', h1, h2, h3⟩
  · exact k
  · rcases k with rfl | ⟨y, e2, f2, f2', k1, k2, k3⟩
    · exact .inr ⟨x, e, f, f', h1, h2, h3⟩
    · rw [h2] at k1
      simp only [Option.some.injEq, Obj.cells.injEq] at k1
      obtain ⟨rfl, rfl, rfl⟩ := k1
      exact .inr ⟨x, e, f, f2', h1, k2, fun h => k3 (h3 h)⟩
structure Step (g : G) (w : World) (g' : G) (w' : World) : Prop where
  le : g.le g'
  size : w.heap.size ≤ w'.heap.size
  os : w'.os = w.os
  tape : w'.tape = w.tape
  output : w'.output = w.output
  low : ∀ b, b < g.lo → w'.heap[b]? = w.heap[b]?
  freshO : ∀ id b, g'.obj id = some b → g.obj id = some b ∨ w.heap.size ≤ b
  freshT : ∀ t i, g'.tok t = some i → (∃ u j, g.tok u = some j ∧ j.blk = i.blk) ∨ w.heap.size ≤ i.blk ∨ ∃ id, g.obj id = some i.blk
  frame : ∀ b, b < w.heap.size → (∀ id, g.obj id ≠ some b) → (∀ t i, g.tok t = some i → i.blk ≠ b) → Wk (w.heap[b]?) (w'.heap[b]?)
  freshI : ∀ b o v, g'.imm b o = some v → g.imm b o = some v ∨ w.heap.size ≤ b ∨ (∃ id, g.obj id = some b) ∨ ∃ t i, g.tok t = some i ∧ i.blk = b
theorem Step.refl (g : G) (w : World) : Step g w g w :=
  ⟨.refl g, Nat.le_refl _, rfl, rfl, rfl, fun _ _ => rfl, fun _ _ h => .inl h, fun t i h => .inl ⟨t, i, h, rfl⟩, fun _ _ _ _ => .inl rfl, fun _ _ _ h => .inl h⟩
theorem Step.trans {g g1 g2 : G} {w w1 w2 : World} (a : Step g w g1 w1) (b : Step g1 w1 g2 w2) : Step g w g2 w2 where
  le := a.le.trans b.le
  size := Nat.le_trans a.size b.size
  os := b.os.trans a.os
  tape := b.tape.trans a.tape
  output := b.output.trans a.output
  low x hx := by rw [b.low x (by rw [a.le.lo]; exact hx), a.low x hx]
  freshO id x h := by
    rcases b.freshO id x h with h | h
    · exact a.freshO id x h
    · exact .inr (Nat.le_trans a.size h)
  freshT t i h := by
    rcases b.freshT t i h with ⟨u, j, hj, e⟩ | h | ⟨id, h⟩
    · rcases a.freshT u j hj with ⟨u', j', hj', e'⟩ | h' | ⟨id, h'⟩
      · exact .inl ⟨u', j', hj', e'.trans e⟩
      · exact .inr (.inl (e ▸ h'))
      · exact .inr (.inr ⟨id, e ▸ h'⟩)
    · exact .inr (.inl (Nat.le_trans a.size h))
    · rcases a.freshO id _ h with h | h
      · exact .inr (.inr ⟨id, h⟩)
      · exact .inr (.inl h)
  frame x hx ho ht := by
    refine (a.frame x hx ho ht).trans (b.frame x (Nat.lt_of_lt_of_le hx a.size) ?_ ?_)
    · intro id hid
      rcases a.freshO id x hid with h | h
      · exact ho id h
      · omega
    · intro t i hi e
      rcases a.freshT t i hi with ⟨u, j, hj, e'⟩ | h | ⟨id, h⟩
      · exact ht u j hj (e'.trans e)
      · omega
      · exact ho id (e ▸ h)
  freshI x o v h := by
    rcases b.freshI x o v h with h | h | ⟨id, h⟩ | ⟨t, i, h, e⟩
    · exact a.freshI x o v h
    · exact .inr (.inl (Nat.le_trans a.size h))
    · rcases a.freshO id x h with h | h
      · exact .inr (.inr (.inl ⟨id, h⟩))
      · exact .inr (.inl h)
    · rcases a.freshT t i h with ⟨u, j, hj, e'⟩ | h | ⟨id, h⟩
      · exact .inr (.inr (.inr ⟨u, j, hj, e'.trans e⟩))
      · exact .inr (.inl (e ▸ h))
      · exact .inr (.inr (.inl ⟨id, e ▸ h⟩))
theorem Step.drew (g : G) (w : World) : Step g w g w.drew :=
  ⟨.refl g, Nat.le_refl _, rfl, rfl, rfl, fun _ _ => rfl, fun _ _ h => .inl h, fun t i h => .inl ⟨t, i, h, rfl⟩, fun _ _ _ _ => .inl rfl, fun _ _ _ h => .inl h⟩
theorem WRel.drew {B : Env} {g : G} {st : St} {w : World} (h : WRel B g st w) : WRel B g st w.drew :=
  ⟨h.base, h.fresh0, h.blkO, h.blkT, h.inj, h.objTok, h.noImm, h.cells, h.maps, h.imm, h.tok, h.tokInj, h.lo, h.glob⟩
end Go.Sim
