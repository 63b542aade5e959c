/- Merged by a program of mine (pack.py) out of my own texts; what is not used is left out. -/
import Derived.Test.YtffenelcgjdbiaaGreatDoorKOramPlays35
set_option linter.unusedVariables false
set_option linter.unusedSimpArgs false
namespace Go.Sim
open Go
inductive Sc where
  | ki (k : IntKind) | bo | sr | pt | ls (sz : Nat) | rf (sz : Nat) | mp | fu | av
inductive Sh1 where
  | sc (s : Sc) | a (cs : List Sc) | g
inductive Sh where
  | one (s : Sh1) | t (vs : List Sh1)
def Sc.ex : Sc → (V → Prop) → Prop
  | .ki k, K => ∃ n : Int, K (.int k n)
  | .bo, K => ∃ b : Bool, K (.bool b)
  | .sr, K => ∃ s : List UInt8, K (.str s)
  | .pt, K => ∃ id : Nat, K (.ptr id 0)
  | .ls sz, K => ∃ (l : List V) (c : Cap), K (.lst sz l c)
  | .rf sz, K => ∃ id off len cap : Nat, K (.ref sz id off len cap)
  | .mp, K => ∃ id : Nat, K (.map id)
  | .fu, K => ∃ (f : FuncId) (cs : List V), K (.fn f cs)
  | .av, K => ∃ v : V, K v
def scsEx : List Sc → (List V → Prop) → Prop
  | [], K => K []
  | s :: r, K => s.ex fun v => scsEx r fun vs => K (v :: vs)
def Sh1.ex : Sh1 → (V → Prop) → Prop
  | .sc s, K => s.ex K
  | .a cs, K => scsEx cs fun vs => K (.agg vs)
  | .g, K => ∃ cs : List V, K (.agg cs)
def sh1sEx : List Sh1 → (List V → Prop) → Prop
  | [], K => K []
  | s :: r, K => s.ex fun v => sh1sEx r fun vs => K (v :: vs)
def Sh.ex : Sh → (V → Prop) → Prop
  | .one s, K => s.ex K
  | .t vs, K => sh1sEx vs fun vs => K (.tup vs)
def Sc.all : Sc → (V → Prop) → Prop
  | .ki k, K => ∀ n : Int, K (.int k n)
  | .bo, K => ∀ b : Bool, K (.bool b)
  | .sr, K => ∀ s : List UInt8, K (.str s)
  | .pt, K => ∀ id : Nat, K (.ptr id 0)
  | .ls sz, K => ∀ (l : List V) (c : Cap), K (.lst sz l c)
  | .rf sz, K => ∀ id off len cap : Nat, K (.ref sz id off len cap)
  | .mp, K => ∀ id : Nat, K (.map id)
  | .fu, K => ∀ (f : FuncId) (cs : List V), K (.fn f cs)
  | .av, K => ∀ v : V, K v
def scsAll : List Sc → (List V → Prop) → Prop
  | [], K => K []
  | s :: r, K => s.all fun v => scsAll r fun vs => K (v :: vs)
def Sh1.all : Sh1 → (V → Prop) → Prop
  | .sc s, K => s.all K
  | .a cs, K => scsAll cs fun vs => K (.agg vs)
  | .g, K => ∀ cs : List V, K (.agg cs)
def sh1sAll : List Sh1 → (List V → Prop) → Prop
  | [], K => K []
  | s :: r, K => s.all fun v => sh1sAll r fun vs => K (v :: vs)
def Sc.chk : Sc → V → Bool
  | .ki k, .int k' _ => k == k'
  | .bo, .bool _ => true
  | .sr, .str _ => true
  | .pt, .ptr _ o => o == 0
  | .ls sz, .lst s _ _ => s == sz
  | .rf sz, .ref s _ _ _ _ => s == sz
  | .mp, .map _ => true
  | .fu, .fn _ _ => true
  | .av, _ => true
  | _, _ => false
def scsChk : List Sc → List V → Bool
  | [], [] => true
  | s :: r, v :: vs => s.chk v && scsChk r vs
  | _, _ => false
def Sh1.chk : Sh1 → V → Bool
  | .sc s, v => s.chk v
  | .a cs, .agg vs => scsChk cs vs
  | .g, .agg _ => true
  | _, _ => false
def sh1sChk : List Sh1 → List V → Bool
  | [], [] => true
  | s :: r, v :: vs => s.chk v && sh1sChk r vs
  | _, _ => false
def Sc.Fn : Sc → Type → Type
  | .ki _, R => Int → R
  | .bo, R => Bool → R
  | .sr, R => List UInt8 → R
  | .pt, R => Nat → R
  | .ls _, R => List V → Cap → R
  | .rf _, R => Nat → Nat → Nat → Nat → R
  | .mp, R => Nat → R
  | .fu, R => FuncId → List V → R
  | .av, R => V → R
def scsFn : List Sc → Type → Type
  | [], R => R
  | s :: r, R => s.Fn (scsFn r R)
def Sh1.Fn : Sh1 → Type → Type
  | .sc s, R => s.Fn R
  | .a cs, R => scsFn cs R
  | .g, R => List V → R
def sh1sFn : List Sh1 → Type → Type
  | [], R => R
  | s :: r, R => s.Fn (sh1sFn r R)
def scsD : (l : List Sc) → {R : Type} → R → scsFn l R
  | [], _, d => d
  | s :: r, _, d => match s with
    | .ki _ => fun _ => scsD r d
    | .bo => fun _ => scsD r d
    | .sr => fun _ => scsD r d
    | .pt => fun _ => scsD r d
    | .ls _ => fun _ _ => scsD r d
    | .rf _ => fun _ _ _ _ => scsD r d
    | .mp => fun _ => scsD r d
    | .fu => fun _ _ => scsD r d
    | .av => fun _ => scsD r d
def Sc.app : (s : Sc) → {R : Type} → R → s.Fn R → V → R
  | .ki _, _, d, f, v => match v with | .int _ n => f n | _ => d
  | .bo, _, d, f, v => match v with | .bool n => f n | _ => d
  | .sr, _, d, f, v => match v with | .str n => f n | _ => d
  | .pt, _, d, f, v => match v with | .ptr n _ => f n | _ => d
  | .ls _, _, d, f, v => match v with | .lst _ l c => f l c | _ => d
  | .rf _, _, d, f, v => match v with | .ref _ a b c e => f a b c e | _ => d
  | .mp, _, d, f, v => match v with | .map n => f n | _ => d
  | .fu, _, d, f, v => match v with | .fn n c => f n c | _ => d
  | .av, _, _, f, v => f v
def scsApp : (l : List Sc) → {R : Type} → R → scsFn l R → List V → R
  | [], _, _, f, _ => f
  | s :: r, _, d, f, vs => match vs with
    | [] => d
    | v :: vs => scsApp r d (s.app (scsD r d) f v) vs
def sh1sD : (l : List Sh1) → {R : Type} → R → sh1sFn l R
  | [], _, d => d
  | s :: r, _, d => match s with
    | .sc s => scsD [s] (sh1sD r d)
    | .a cs => scsD cs (sh1sD r d)
    | .g => fun _ => sh1sD r d
def Sh1.app : (s : Sh1) → {R : Type} → R → s.Fn R → V → R
  | .sc s, _, d, f, v => s.app d f v
  | .a cs, _, d, f, v => match v with | .agg vs => scsApp cs d f vs | _ => d
  | .g, _, d, f, v => match v with | .agg vs => f vs | _ => d
def sh1sApp : (l : List Sh1) → {R : Type} → R → sh1sFn l R → List V → R
  | [], _, _, f, _ => f
  | s :: r, _, d, f, vs => match vs with
    | [] => d
    | v :: vs => sh1sApp r d (s.app (sh1sD r d) f v) vs
def Sc.lam : (s : Sc) → {R : Type} → (V → R) → s.Fn R
  | .ki k, _, f => fun n => f (.int k n)
  | .bo, _, f => fun n => f (.bool n)
  | .sr, _, f => fun n => f (.str n)
  | .pt, _, f => fun n => f (.ptr n 0)
  | .ls sz, _, f => fun l c => f (.lst sz l c)
  | .rf sz, _, f => fun a b c d => f (.ref sz a b c d)
  | .mp, _, f => fun n => f (.map n)
  | .fu, _, f => fun n c => f (.fn n c)
  | .av, _, f => f
def scsLam : (l : List Sc) → {R : Type} → (List V → R) → scsFn l R
  | [], _, f => f []
  | s :: r, _, f => s.lam fun v => scsLam r fun vs => f (v :: vs)
def Sh1.lam : (s : Sh1) → {R : Type} → (V → R) → s.Fn R
  | .sc s, _, f => s.lam f
  | .a cs, _, f => scsLam cs fun vs => f (.agg vs)
  | .g, _, f => fun vs => f (.agg vs)
def sh1sLam : (l : List Sh1) → {R : Type} → (List V → R) → sh1sFn l R
  | [], _, f => f []
  | s :: r, _, f => s.lam fun v => sh1sLam r fun vs => f (v :: vs)
theorem Sc.app_lam {s : Sc} {R : Type} {d : R} {f : V → R} {v : V} (h : s.chk v = true) : s.app d (s.lam f) v = f v := by
  cases s <;> cases v <;> simp only [Sc.chk, Bool.false_eq_true, beq_iff_eq] at h <;> (try subst h) <;> rfl
theorem scsApp_lam : ∀ {l : List Sc} {R : Type} {d : R} {f : List V → R} {vs : List V}, scsChk l vs = true → scsApp l d (scsLam l f) vs = f vs
  | [], R, d, f, vs, h => by cases vs <;> simp [scsChk] at h; rfl
  | s :: r, R, d, f, vs, h => by
    cases vs with
    | nil => simp [scsChk] at h
    | cons v vs =>
      simp only [scsChk, Bool.and_eq_true] at h
      simp only [scsApp, scsLam]
      rw [Sc.app_lam h.1, scsApp_lam h.2]
theorem Sh1.app_lam {s : Sh1} {R : Type} {d : R} {f : V → R} {v : V} (h : s.chk v = true) : s.app d (s.lam f) v = f v := by
  cases s with
  | sc s => exact Sc.app_lam h
  | a cs => cases v <;> simp only [Sh1.chk, Bool.false_eq_true] at h; exact scsApp_lam (f := fun vs => f (.agg vs)) h
  | g => cases v <;> simp only [Sh1.chk, Bool.false_eq_true] at h; rfl
theorem sh1sApp_lam : ∀ {l : List Sh1} {R : Type} {d : R} {f : List V → R} {vs : List V}, sh1sChk l vs = true → sh1sApp l d (sh1sLam l f) vs = f vs
  | [], R, d, f, vs, h => by cases vs <;> simp [sh1sChk] at h; rfl
  | s :: r, R, d, f, vs, h => by
    cases vs with
    | nil => simp [sh1sChk] at h
    | cons v vs =>
      simp only [sh1sChk, Bool.and_eq_true] at h
      simp only [sh1sApp, sh1sLam]
      rw [Sh1.app_lam h.1, sh1sApp_lam h.2]
theorem Sc.all_intro {s : Sc} {K : V → Prop} (h : ∀ v, s.chk v = true → K v) : s.all K := by
  cases s <;> simp only [Sc.all] <;> intros <;> apply h <;> simp [Sc.chk]
theorem scsAll_intro : ∀ {l : List Sc} {K : List V → Prop}, (∀ vs, scsChk l vs = true → K vs) → scsAll l K
  | [], _, h => h [] rfl
  | s :: r, _, h => Sc.all_intro fun v hv => scsAll_intro fun vs hvs => h (v :: vs) (by simp [scsChk, hv, hvs])
theorem Sh1.all_intro {s : Sh1} {K : V → Prop} (h : ∀ v, s.chk v = true → K v) : s.all K := by
  cases s with
  | sc s => exact Sc.all_intro h
  | a cs => exact scsAll_intro fun vs hvs => h (.agg vs) hvs
  | g => exact fun cs => h (.agg cs) rfl
theorem sh1sAll_intro : ∀ {l : List Sh1} {K : List V → Prop}, (∀ vs, sh1sChk l vs = true → K vs) → sh1sAll l K
  | [], _, h => h [] rfl
  | s :: r, _, h => Sh1.all_intro fun v hv => sh1sAll_intro fun vs hvs => h (v :: vs) (by simp [sh1sChk, hv, hvs])
theorem Sc.ex_some {s : Sc} {K : V → Prop} (h : s.ex K) : ∃ v, K v := by
  cases s <;> simp only [Sc.ex] at h
  case ls => obtain ⟨a, b, h⟩ := h; exact ⟨_, h⟩
  case rf => obtain ⟨a, b, c, d, h⟩ := h; exact ⟨_, h⟩
  case fu => obtain ⟨a, b, h⟩ := h; exact ⟨_, h⟩
  all_goals (obtain ⟨a, h⟩ := h; exact ⟨_, h⟩)
theorem scsEx_some {l : List Sc} : ∀ {K : List V → Prop}, scsEx l K → ∃ v, K v := by
  induction l with
  | nil => intro K h; exact ⟨_, h⟩
  | cons s r ih => intro K h; obtain ⟨v, h⟩ := Sc.ex_some h; obtain ⟨vs, h⟩ := ih h; exact ⟨_, h⟩
theorem Sh1.ex_some {s : Sh1} {K : V → Prop} (h : s.ex K) : ∃ v, K v := by
  cases s with
  | sc s => exact Sc.ex_some h
  | a cs => obtain ⟨vs, h⟩ := scsEx_some h; exact ⟨_, h⟩
  | g => obtain ⟨vs, h⟩ := h; exact ⟨_, h⟩
theorem sh1sEx_some {l : List Sh1} : ∀ {K : List V → Prop}, sh1sEx l K → ∃ v, K v := by
  induction l with
  | nil => intro K h; exact ⟨_, h⟩
  | cons s r ih => intro K h; obtain ⟨v, h⟩ := Sh1.ex_some h; obtain ⟨vs, h⟩ := ih h; exact ⟨_, h⟩
theorem Sh.ex_some {s : Sh} {K : V → Prop} (h : s.ex K) : ∃ v, K v := by
  cases s with
  | one s => exact Sh1.ex_some h
  | t vs => obtain ⟨vs, h⟩ := sh1sEx_some h; exact ⟨_, h⟩
theorem Sc.all_get {s : Sc} {K : V → Prop} (h : s.all K) {v : V} (hc : s.chk v = true) : K v := by
  cases s <;> cases v <;> simp only [Sc.chk, Bool.false_eq_true, beq_iff_eq] at hc <;> simp only [Sc.all] at h <;> (try subst hc) <;> apply h
theorem scsAll_get {l : List Sc} : ∀ {K : List V → Prop}, scsAll l K → ∀ {vs : List V}, scsChk l vs = true → K vs := by
  induction l with
  | nil => intro K h vs hc; cases vs <;> simp [scsChk] at hc; exact h
  | cons s r ih =>
    intro K h vs hc
    cases vs <;> simp only [scsChk, Bool.and_eq_true, Bool.false_eq_true] at hc
    exact ih (Sc.all_get (K := fun v => scsAll r fun vs => K (v :: vs)) h hc.1) hc.2
theorem Sh1.all_get {s : Sh1} {K : V → Prop} (h : s.all K) {v : V} (hc : s.chk v = true) : K v := by
  cases s with
  | sc s => exact Sc.all_get h hc
  | a cs => cases v <;> simp only [Sh1.chk, Bool.false_eq_true] at hc; exact scsAll_get (K := fun vs => K (.agg vs)) h hc
  | g => cases v <;> simp only [Sh1.chk, Bool.false_eq_true] at hc; exact h _
theorem sh1sAll_get {l : List Sh1} : ∀ {K : List V → Prop}, sh1sAll l K → ∀ {vs : List V}, sh1sChk l vs = true → K vs := by
  induction l with
  | nil => intro K h vs hc; cases vs <;> simp [sh1sChk] at hc; exact h
  | cons s r ih =>
    intro K h vs hc
    cases vs <;> simp only [sh1sChk, Bool.and_eq_true, Bool.false_eq_true] at hc
    exact ih (Sh1.all_get (K := fun v => sh1sAll r fun vs => K (v :: vs)) h hc.1) hc.2
def tabV : List V := tab64.map fun (n : Nat) => V.int .u8 (n : Int)
def iand (k : IntKind) (a b : Int) : Int := k.wrap (BitVec.ofInt k.bits a &&& BitVec.ofInt k.bits b).toNat
def ior (k : IntKind) (a b : Int) : Int := k.wrap (BitVec.ofInt k.bits a ||| BitVec.ofInt k.bits b).toNat
def ixor (k : IntKind) (a b : Int) : Int := k.wrap (BitVec.ofInt k.bits a ^^^ BitVec.ofInt k.bits b).toNat
def St.ldv (st : St) (id off n : Nat) (agg : Bool) : Option V := (st.cells id).bind fun cs => if off + n ≤ cs.length then aggOr agg ((cs.drop off).take n) else none
def fldV (cs : List V) (off n : Nat) (agg : Bool) : Option V := if off + n ≤ cs.length then aggOr agg ((cs.drop off).take n) else none
def St.mlook (st : St) (id : Nat) (kk : IntKind) (i : Int) (z : V) : Option (V × Bool) := (st.maps id).bind fun m => (lookM m kk i).map fun r => (r.getD z, r.isSome)
structure Apd (st : St) (c : Cap) (m : List V) (c' : Cap) (st' : St) : Prop where
  cap : c' = appCap st c m
  st : st' = appSt st c m
def hasApp (st : St) (c : Cap) (n : Nat) : Prop := canApp st c = true ∧ n ≤ 140737488355328
def isNil : V → Option Bool
  | .nilp => some true
  | .ptr _ _ => some false
  | .nilm => some true
  | .map _ => some false
  | .lst _ _ .nil => some true
  | .lst _ _ .exact => some false
  | .lst _ _ (.tail _) => some false
  | .ref _ _ _ _ _ => some false
  | _ => none
def evalD (o : AOp) (fr : Fr) (st : St) (K : V → St → Prop) : Prop :=
  match evalA o fr st with
  | some (v, st') => K v st'
  | none => False
def aoI (fr : Fr) : Option AO → Option Int
  | none => none
  | some x => (evalO fr x).bind intOf?
def evalN (sh : Sh) (o : AOp) (fr : Fr) (st : St) (K : V → St → Prop) : Prop :=
  match o with
  | .ld n agg x => match evalO fr x with
    | some (.ptr id off) => sh.ex fun v => st.ldv id off n agg = some v ∧ K v st
    | some (.ep cs) => sh.ex fun v => fldV cs 0 n agg = some v ∧ K v st
    | _ => False
  | .sto n x y => match evalO fr x, evalO fr y with
    | some (.ptr id off), some u => bif n == 1 && u.one then ∃ cs, st.cells id = some cs ∧ off < cs.length ∧ ∀ st', st' = st.setC id (cs.set off u) → K (.tup []) st'
      else u.cells.length = n ∧ u.notTup = true ∧ ∃ cs, st.cells id = some cs ∧ off + n ≤ cs.length ∧ ∀ st', st' = st.setC id (repl cs off u.cells) → K (.tup []) st'
    | _, _ => False
  | .bin op x y => match evalO fr x, evalO fr y with
    | some (.int k a), some (.int k' b) => match op with
      | .quo => if k = k' then b ≠ 0 ∧ K (.int k (k.wrap (a.tdiv b))) st else False
      | .rem => if k = k' then b ≠ 0 ∧ K (.int k (a.tmod b)) st else False
      | .shl => 0 ≤ b ∧ K (.int k (k.wrap (a * 2 ^ min b.toNat k.bits))) st
      | .shr => 0 ≤ b ∧ K (.int k (a.fdiv (2 ^ min b.toNat k.bits))) st
      | op => evalD (.bin op x y) fr st K
    | some (.str a), some (.str b) => match op with
      | .add => a.length + b.length ≤ 140737488355328 ∧ K (.str (a ++ b)) st
      | op => evalD (.bin op x y) fr st K
    | _, _ => False
  | .ia sz x i => match evalO fr x, evalO fr i with
    | some (.lst s l _), some (.int _ j) => if s = sz then ∃ k : Nat, j = k ∧ sh.ex fun v => l[k]? = some v ∧ K (.ep v.cells) st else False
    | some (.ref s id off len _), some (.int _ j) => if s = sz then ∃ k : Nat, j = k ∧ k < len ∧ K (.ptr id (off + k * sz)) st else False
    | _, _ => False
  | .iaA n sz x i => match evalO fr x, evalO fr i with
    | some (.ptr id off), some (.int _ j) => ∃ k : Nat, j = k ∧ k < n ∧ K (.ptr id (off + k * sz)) st
    | some (.ep cs), some (.int _ j) => ∃ k : Nat, j = k ∧ k < n ∧ k * sz ≤ cs.length ∧ K (.ep (cs.drop (k * sz))) st
    | _, _ => False
  | .iaG _ n sz cs i => match evalO fr i with
    | some (.int _ j) => if n * sz = cs.length then ∃ k : Nat, j = k ∧ k < n ∧ K (.ep (cs.drop (k * sz))) st else False
    | _ => False
  | .ixA n sz agg x i => match evalO fr x, evalO fr i with
    | some (.agg cs), some (.int _ j) => ∃ k : Nat, j = k ∧ k < n ∧ sh.ex fun v => fldV cs (k * sz) sz agg = some v ∧ K v st
    | _, _ => False
  | .ixS x i => match evalO fr x, evalO fr i with
    | some (.str l), some (.int _ j) => ∃ k : Nat, j = k ∧ ∃ c : UInt8, l[k]? = some c ∧ K (.int .u8 c.toNat) st
    | _, _ => False
  | .fld off n agg x => match evalO fr x with
    | some (.agg cs) => sh.ex fun v => fldV cs off n agg = some v ∧ K v st
    | _ => False
  | .sl sz x lo hi mx => match evalO fr x, mx with
    | some (.lst s l c), none => if s = sz then (match lo, hi with
        | none, none => K (.lst sz l (slCap false c)) st
        | some _, none => (match aoI fr lo with | some a => ∃ i : Nat, a = i ∧ i ≤ l.length ∧ K (.lst sz (l.drop i) (slCap false c)) st | none => False)
        | none, some _ => (match aoI fr hi with | some b => ∃ j : Nat, b = j ∧ j ≤ l.length ∧ K (.lst sz (l.take j) (slCap false c)) st | none => False)
        | some _, some _ => (match aoI fr lo, aoI fr hi with | some a, some b => ∃ i j : Nat, a = i ∧ b = j ∧ i ≤ j ∧ j ≤ l.length ∧ K (.lst sz ((l.take j).drop i) (slCap false c)) st | _, _ => False)) else False
    | some (.lst s l c), some _ => if s = sz then (match lo.isNone, aoI fr lo, aoI fr hi, aoI fr mx with
        | true, _, some b, some d => ∃ j : Nat, b = j ∧ d = j ∧ j ≤ l.length ∧ K (.lst sz (l.take j) (slCap true c)) st
        | false, some a, some b, some d => ∃ i j : Nat, a = i ∧ b = j ∧ d = j ∧ i ≤ j ∧ j ≤ l.length ∧ K (.lst sz ((l.take j).drop i) (slCap true c)) st
        | _, _, _, _ => False) else False
    | some (.ref s id off len cap), none => if s = sz then (match lo, hi with
        | none, none => K (.ref sz id off len cap) st
        | some _, none => (match aoI fr lo with | some a => ∃ i : Nat, a = i ∧ i ≤ len ∧ K (.ref sz id (if cap = i then off else off + i * sz) (len - i) (cap - i)) st | none => False)
        | none, some _ => (match aoI fr hi with | some b => ∃ j : Nat, b = j ∧ j ≤ cap ∧ K (.ref sz id off j cap) st | none => False)
        | some _, some _ => (match aoI fr lo, aoI fr hi with | some a, some b => ∃ i j : Nat, a = i ∧ b = j ∧ i ≤ j ∧ j ≤ cap ∧ K (.ref sz id (if cap = i then off else off + i * sz) (j - i) (cap - i)) st | _, _ => False)) else False
    | _, _ => False
  | .slA n sz x lo hi => match evalO fr x with
    | some (.ptr id off) => (match lo, hi with
        | some _, none => (match aoI fr lo with | some a => ∃ i : Nat, a = i ∧ i ≤ n ∧ K (.ref sz id (if n = i then off else off + i * sz) (n - i) (n - i)) st | none => False)
        | none, some _ => (match aoI fr hi with | some b => ∃ j : Nat, b = j ∧ j ≤ n ∧ K (.ref sz id off j n) st | none => False)
        | some _, some _ => (match aoI fr lo, aoI fr hi with | some a, some b => ∃ i j : Nat, a = i ∧ b = j ∧ i ≤ j ∧ j ≤ n ∧ K (.ref sz id (if n = i then off else off + i * sz) (j - i) (n - i)) st | _, _ => False)
        | none, none => K (.ref sz id off n n) st)
    | some (.ep cs) => if sz = 1 then n ≤ cs.length ∧ (match lo, hi with
        | some _, none => (match aoI fr lo with | some a => ∃ i : Nat, a = i ∧ i ≤ n ∧ K (.lst 1 ((cs.take n).drop i) .full) st | none => False)
        | none, some _ => (match aoI fr hi with | some b => ∃ j : Nat, b = j ∧ j ≤ n ∧ K (.lst 1 (cs.take j) (if j = n then .full else .unk)) st | none => False)
        | some _, some _ => (match aoI fr lo, aoI fr hi with | some a, some b => ∃ i j : Nat, a = i ∧ b = j ∧ i ≤ j ∧ j ≤ n ∧ K (.lst 1 ((cs.take j).drop i) (if j = n then .full else .unk)) st | _, _ => False)
        | none, none => K (.lst 1 (cs.take n) .full) st) else False
    | _ => False
  | .slS x lo hi => match evalO fr x with
    | some (.str l) => (match lo, hi with
        | none, none => K (.str l) st
        | some _, none => (match aoI fr lo with | some a => ∃ i : Nat, a = i ∧ i ≤ l.length ∧ K (.str (l.drop i)) st | none => False)
        | none, some _ => (match aoI fr hi with | some b => ∃ j : Nat, b = j ∧ j ≤ l.length ∧ K (.str (l.take j)) st | none => False)
        | some _, some _ => (match aoI fr lo, aoI fr hi with | some a, some b => ∃ i j : Nat, a = i ∧ b = j ∧ i ≤ j ∧ j ≤ l.length ∧ K (.str ((l.take j).drop i)) st | _, _ => False))
    | _ => False
  | .look z x k ok => match evalO fr x, evalO fr k with
    | some (.map id), some (.int kk i) => sh.ex fun v => ∃ b : Bool, st.mlook id kk i z = some (v, b) ∧ K (bif ok then .tup [v, .bool b] else v) st
    | _, _ => False
  | .mup m k v => match evalO fr m, evalO fr k, evalO fr v with
    | some (.map id), some (.int kk i), some u => ∃ m, st.maps id = some m ∧ (lookM m kk i).isSome = true ∧ ∀ st', st' = st.setM id (updM m kk i u.wk) → K (.tup []) st'
    | _, _, _ => False
  | .del m k => match evalO fr m, evalO fr k with
    | some (.map id), some (.int kk i) => ∃ m, st.maps id = some m ∧ (lookM m kk i).isSome = true ∧ ∀ st', st' = st.setM id (delM m i) → K (.tup []) st'
    | _, _ => False
  | .len k x => match evalO fr x with
    | some (.map id) => if k = 2 then ∃ m, st.maps id = some m ∧ K (.int .i64 m.length) st else False
    | _ => False
  | .mm isMax xs => match evalOs fr xs with
    | some [.int k a, .int _ b] => K (.int k (bif isMax then max a b else min a b)) st
    | some [.int k a, .int _ b, .int _ c] => K (.int k (bif isMax then max (max a b) c else min (min a b) c)) st
    | _ => False
  | .mks sz bytes z mu l c => match evalO fr l, evalO fr c with
    | some (.int .i64 a), some (.int .i64 b) => bif mu then ∃ n k : Nat, a = n ∧ b = k ∧ n ≤ k ∧ k * (bytes + 1) ≤ 140737488355328 ∧ ∀ st', st' = st.newC (List.replicate k z.cells).flatten → K (.ref sz st.next 0 n k) st'
        else ∃ n : Nat, a = n ∧ b = n ∧ n * (bytes + 1) ≤ 140737488355328 ∧ K (.lst sz (List.replicate n z.wk) .exact) st
    | _, _ => False
  | .app sz bytes mu x y => bif mu then False else match evalO fr x, evalO fr y with
    | some (.lst s l c), some (.lst s' m _) => if s = sz ∧ s' = sz then hasApp st c ((l.length + m.length) * (bytes + 1)) ∧ ∀ c' st', Apd st c m c' st' → K (.lst sz (l ++ m) c') st' else False
    | some (.lst s l c), some b => if s = sz then ∃ m, elemsOf st sz b = some m ∧ hasApp st c ((l.length + m.length) * (bytes + 1)) ∧ ∀ c' st', Apd st c m c' st' → K (.lst sz (l ++ m) c') st' else False
    | some (.ref s id off len cap), some b => if s = sz then ∃ m cs, elemsOf st sz b = some m ∧ st.cells id = some cs ∧ len + m.length ≤ cap ∧ off + cap * sz ≤ cs.length ∧
        ∀ st', st' = st.setC id (repl cs (off + len * sz) (flat m)) → K (.ref sz id off (len + m.length) cap) st' else False
    | _, _ => False
  | .appz sz bytes z x n => match evalO fr x, evalO fr n with
    | some (.lst s l c), some (.int .i64 j) => if s = sz then ∃ k : Nat, j = k ∧ hasApp st c ((l.length + k) * (bytes + 1)) ∧ ∀ c' st', Apd st c (List.replicate k z) c' st' → K (.lst sz (l ++ List.replicate k z) c') st' else False
    | _, _ => False
  | .cpy sz x y => match evalO fr x, evalO fr y with
    | some (.ref s id off len _), some b => if s = sz then ∃ m cs, elemsOf st sz b = some m ∧ st.cells id = some cs ∧ off + (min m.length len) * sz ≤ cs.length ∧
        ∀ st', st' = st.setC id (repl cs off (flat (m.take (min m.length len)))) → K (.int .i64 (min m.length len : Nat)) st' else False
    | _, _ => False
  | .arr n sz x => match evalO fr x with
    | some (.lst s l _) => if s = sz ∧ 0 < n then n ≤ l.length ∧ K (.ep (flat (l.take n))) st else False
    | some (.ref s id off len _) => if s = sz then n ≤ len ∧ K (.ptr id off) st else False
    | _ => False
  | .b2s x => match evalO fr x with
    | some (.lst 1 l _) => ∃ s, strOf l = some s ∧ K (.str s) st
    | _ => False
  | .s2b x => match evalO fr x with
    | some (.str s) => s.length ≤ 140737488355328 ∧ ∀ st', st' = st.newT → K (.lst 1 (s.map fun c => V.int .u8 c.toNat) (.tail st.next)) st'
    | _ => False
  | .alloc z => ∀ st', st' = st.newC z → K (.ptr st.next 0) st'
  | .box x => match evalO fr x with
    | some u => bif u.notTup then ∀ st', st' = st.newC u.cells → K (.ptr st.next 0) st' else False
    | _ => False
  | .mkm => ∀ st', st' = st.newM → K (.map st.next) st'
  | .pick c a b => match evalO fr c, evalO fr a, evalO fr b with
    | some (.bool t), some (.int k x), some (.int k' y) => if k = k' then K (.int k (if t = true then x else y)) st else False
    | some (.bool t), some (.bool x), some (.bool y) => K (.bool (if t = true then x else y)) st
    | some (.bool t), some x, some y => (t = true → K x st) ∧ (t = false → K y st)
    | _, _, _ => False
  | .lits sz ps => match evalOs fr ps with
    | some vs => (∀ v ∈ vs, v.cells.length = sz ∧ v.notTup = true) ∧ K (.lst sz (vs.map V.wk) .exact) st
    | none => False
  | .fa off x => match evalO fr x with
    | some (.ep cs) => off ≤ cs.length ∧ K (.ep (cs.drop off)) st
    | _ => False
  | .build z ps => ∃ cs, (evalPs fr ps).bind (fillV z) = some cs ∧ K (.agg cs) st
  | .eqv k neq x y => match evalO fr x with
    | some u => match evalO fr y with
      | some .nilp => if k = 1 then ∃ b : Bool, isNil u = some b ∧ cls u = 1 ∧ K (.bool (bif neq then !b else b)) st else False
      | some .nilm => if k = 2 then ∃ b : Bool, isNil u = some b ∧ cls u = 2 ∧ K (.bool (bif neq then !b else b)) st else False
      | some (.lst _ _ .nil) => if k = 3 then ∃ b : Bool, isNil u = some b ∧ cls u = 3 ∧ K (.bool (bif neq then !b else b)) st else False
      | _ => False
    | none => False
  | o => evalD o fr st K
theorem evalD_some {o : AOp} {fr : Fr} {st : St} {K : V → St → Prop} (h : evalD o fr st K) : ∃ v st', evalA o fr st = some (v, st') ∧ K v st' := by
  unfold evalD at h
  split at h
  · rename_i v st' he; exact ⟨v, st', he, h⟩
  · exact h.elim
end Go.Sim
