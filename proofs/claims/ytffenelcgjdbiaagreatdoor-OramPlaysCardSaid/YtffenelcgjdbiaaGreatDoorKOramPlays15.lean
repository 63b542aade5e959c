/- Merged by a program of mine (pack.py) out of my own texts; what is not used is left out. -/
import Derived.Test.YtffenelcgjdbiaaGreatDoorKOramPlays14
set_option linter.unusedVariables false
set_option linter.unusedSimpArgs false
namespace Go.Sim
open Go
inductive AOp where
  | mv (x : AO)
  | pick (c a b : AO)
  | alloc (z : List V)
  | box (x : AO)
  | build (z : List V) (ps : List (Nat × Nat × AO))
  | lits (sz : Nat) (ps : List AO)
  | ld (n : Nat) (agg : Bool) (x : AO)
  | sto (n : Nat) (x v : AO)
  | nilc (x : AO)
  | bin (op : BinOp) (x y : AO)
  | eqv (k : Nat) (neq : Bool) (x y : AO)
  | un (op : UnOp) (x : AO)
  | cint (k : IntKind) (x : AO)
  | cid (x : AO)
  | b2s (x : AO)
  | s2b (x : AO)
  | fa (off : Nat) (x : AO)
  | fld (off n : Nat) (agg : Bool) (x : AO)
  | ia (sz : Nat) (x i : AO)
  | iaA (n sz : Nat) (x i : AO)
  | ixA (n sz : Nat) (agg : Bool) (x i : AO)
  | iaG (k n sz : Nat) (cs : List V) (i : AO)
  | ixS (x i : AO)
  | ext (x : AO) (i : Nat)
  | mkf (f : FuncId) (cap : List AO)
  | mkm
  | mks (sz bytes : Nat) (z : V) (mu : Bool) (l c : AO)
  | sl (sz : Nat) (x : AO) (lo hi mx : Option AO)
  | slA (n sz : Nat) (x : AO) (lo hi : Option AO)
  | slS (x : AO) (lo hi : Option AO)
  | look (z : V) (x k : AO) (ok : Bool)
  | mup (m k v : AO)
  | del (m k : AO)
  | len (k : Nat) (x : AO)
  | lenA (n : Nat)
  | capv (x : AO)
  | mm (isMax : Bool) (xs : List AO)
  | app (sz bytes : Nat) (mu : Bool) (x y : AO)
  | appz (sz bytes : Nat) (z : V) (x n : AO)
  | cpy (sz : Nat) (x y : AO)
  | mki (t : TypeId) (x : AO)
  | mark (x : AO)
  | arr (n sz : Nat) (x : AO)
  deriving Inhabited
def aggOr (agg : Bool) (cs : List V) : Option V :=
  if agg then some (.agg cs) else cs[0]?
def fillV (z : List V) : List (Nat × Nat × V) → Option (List V)
  | [] => some z
  | (off, size, v) :: r => if v.cells.length = size ∧ v.notTup = true ∧ off + size ≤ z.length then fillV (repl z off v.cells) r else none
def evalPs (fr : Fr) : List (Nat × Nat × AO) → Option (List (Nat × Nat × V))
  | [] => some []
  | (o, n, x) :: r => (evalO fr x).bind fun v => (evalPs fr r).bind fun vs => some ((o, n, v) :: vs)
def intOf? : V → Option Int
  | .int _ n => some n
  | _ => none
def inRange (i : Int) (n : Nat) : Option Nat := if 0 ≤ i ∧ i < n then some i.toNat else none
def inBound (i : Int) (n : Nat) : Option Nat := if 0 ≤ i ∧ i ≤ n then some i.toNat else none
def bnd (fr : Fr) (x : Option AO) (dflt lim : Nat) : Option Nat :=
  match x with
  | none => some dflt
  | some x => (evalO fr x).bind fun v => (intOf? v).bind fun i => inBound i lim
def slCap (mx : Bool) : Cap → Cap
  | .nil => .nil
  | .exact => if mx then .exact else .unk
  | .tail _ => if mx then .exact else .unk
  | .unk => if mx then .full else .unk
  | .full => if mx then .full else .unk
def canApp (st : St) : Cap → Bool
  | .nil => true
  | .exact => true
  | .tail t => st.tok t
  | .unk => false
  | .full => true
def appCap (st : St) (c : Cap) (m : List V) : Cap := if m.isEmpty then c else .tail st.next
def appSt (st : St) (c : Cap) (m : List V) : St := if m.isEmpty then st else (match c with | .tail t => st.killT t | _ => st).newT
@[simp] theorem appSt_cells (st : St) (c : Cap) (m : List V) : (appSt st c m).cells = st.cells := by
  unfold appSt; split
  · rfl
  · cases c <;> rfl
@[simp] theorem appSt_maps (st : St) (c : Cap) (m : List V) : (appSt st c m).maps = st.maps := by
  unfold appSt; split
  · rfl
  · cases c <;> rfl
theorem canApp_app (st : St) (c : Cap) (m : List V) (h : canApp st c = true) : canApp (appSt st c m) (appCap st c m) = true := by
  unfold appSt appCap
  split
  · exact h
  · cases c <;> simp [canApp, St.newT, St.killT]
def elemsOf (st : St) (sz : Nat) : V → Option (List V)
  | .lst s l _ => if s = sz then some l else none
  | .ref s id off len _ => if s = sz then (st.cells id).bind fun cs => if off + len * sz ≤ cs.length then some (if sz = 1 then (cs.drop off).take len else chunks sz len (cs.drop off)) else none else none
  | _ => none
def lookM (m : List (V × V)) (kk : IntKind) (k : Int) : Option (Option V) :=
  match m with
  | [] => some none
  | (.int kj j, v) :: r => if kk = kj then (if k = j then some (some v) else lookM r kk k) else none
  | _ => none
def updM (m : List (V × V)) (kk : IntKind) (k : Int) (v : V) : List (V × V) :=
  match m with
  | [] => [(.int kk k, v)]
  | (.int kj j, u) :: r => if k = j then (.int kk k, v) :: r else (.int kj j, u) :: updM r kk k v
  | x :: r => x :: r
def delM (m : List (V × V)) (k : Int) : List (V × V) :=
  match m with
  | [] => []
  | (.int kj j, u) :: r => if k = j then r else (.int kj j, u) :: delM r k
  | x :: r => x :: r
def cls : V → Nat
  | .bool _ => 0
  | .nilp => 1
  | .ptr _ _ => 1
  | .nilm => 2
  | .map _ => 2
  | .lst _ _ _ => 3
  | .ref _ _ _ _ _ => 3
  | .str _ => 4
  | _ => 9
def strOf : List V → Option (List UInt8)
  | [] => some []
  | .int .u8 n :: r => (strOf r).bind fun s => some (UInt8.ofNat n.toNat :: s)
  | _ => none
def evalA (o : AOp) (fr : Fr) (st : St) : Option (V × St) :=
  match o with
  | .mv x => (evalO fr x).bind fun v => some (v, st)
  | .pick c a b => (evalO fr c).bind fun v => match v with
    | .bool b' => (evalO fr (if b' then a else b)).bind fun u => some (u, st)
    | _ => none
  | .alloc z => some (.ptr st.next 0, st.newC z)
  | .box x => (evalO fr x).bind fun v => if v.notTup then some (.ptr st.next 0, st.newC v.cells) else none
  | .build z ps => (evalPs fr ps).bind fun vs => (fillV z vs).bind fun cs => some (.agg cs, st)
  | .lits sz ps => (evalOs fr ps).bind fun vs => if vs.all (fun v => v.cells.length == sz && v.notTup) then some (.lst sz (vs.map V.wk) .exact, st) else none
  | .ld n agg x => (evalO fr x).bind fun v => match v with
    | .ptr id off => (st.cells id).bind fun cs => if off + n ≤ cs.length then (aggOr agg ((cs.drop off).take n)).bind fun u => some (u, st) else none
    | .ep cs => if n ≤ cs.length then (aggOr agg (cs.take n)).bind fun u => some (u, st) else none
    | _ => none
  | .sto n x y => (evalO fr x).bind fun v => (evalO fr y).bind fun u => match v with
    | .ptr id off => (st.cells id).bind fun cs => if u.cells.length = n ∧ u.notTup = true ∧ off + n ≤ cs.length then some (.tup [], st.setC id (repl cs off u.cells)) else none
    | _ => none
  | .nilc x => (evalO fr x).bind fun v => match v with
    | .ptr id off => some (.ptr id off, st)
    | .ep cs => some (.ep cs, st)
    | .fn f c => some (.fn f c, st)
    | _ => none
  | .bin op x y => (evalO fr x).bind fun a => (evalO fr y).bind fun b => (binV op a b).bind fun v => some (v, st)
  | .eqv k neq x y => (evalO fr x).bind fun a => (evalO fr y).bind fun b => if cls a ≠ k then none else match a, b with
    | .bool p, .bool q => some (.bool (if neq then p != q else p == q), st)
    | .nilp, .nilp => some (.bool (!neq), st)
    | .ptr _ _, .nilp => some (.bool neq, st)
    | .nilm, .nilm => some (.bool (!neq), st)
    | .map _, .nilm => some (.bool neq, st)
    | .lst _ _ .nil, .lst _ _ .nil => some (.bool (!neq), st)
    | .lst _ _ .exact, .lst _ _ .nil => some (.bool neq, st)
    | .lst _ _ (.tail _), .lst _ _ .nil => some (.bool neq, st)
    | .ref _ _ _ _ _, .lst _ _ .nil => some (.bool neq, st)
    | _, _ => none
  | .un op x => (evalO fr x).bind fun a => match op, a with
    | .not, .bool b => some (.bool (!b), st)
    | .neg, .int k n => some (.int k (k.wrap (0 - n)), st)
    | _, _ => none
  | .cint k x => (evalO fr x).bind fun a => match a with
    | .int _ n => some (.int k (k.wrap n), st)
    | _ => none
  | .cid x => (evalO fr x).bind fun a => match a with
    | .str l => some (.str l, st)
    | _ => none
  | .fa off x => (evalO fr x).bind fun a => match a with
    | .ptr id o => some (.ptr id (o + off), st)
    | .ep cs => if off ≤ cs.length then some (.ep (cs.drop off), st) else none
    | _ => none
  | .fld off n agg x => (evalO fr x).bind fun a => match a with
    | .agg cs => if off + n ≤ cs.length then (aggOr agg ((cs.drop off).take n)).bind fun u => some (u, st) else none
    | _ => none
  | .ia sz x i => (evalO fr x).bind fun a => (evalO fr i).bind fun b => (intOf? b).bind fun i => match a with
    | .lst s l _ => if s = sz then (inRange i l.length).bind fun k => (l[k]?).bind fun e => some (.ep e.cells, st) else none
    | .ref s id off len _ => if s = sz then (inRange i len).bind fun k => some (.ptr id (off + k * sz), st) else none
    | _ => none
  | .iaA n sz x i => (evalO fr x).bind fun a => (evalO fr i).bind fun b => (intOf? b).bind fun i => match a with
    | .ptr id off => (inRange i n).bind fun k => some (.ptr id (off + k * sz), st)
    | .ep cs => (inRange i n).bind fun k => if k * sz ≤ cs.length then some (.ep (cs.drop (k * sz)), st) else none
    | _ => none
  | .iaG _ n sz cs i => (evalO fr i).bind fun b => (intOf? b).bind fun i => (inRange i n).bind fun k => if n * sz = cs.length then some (.ep (cs.drop (k * sz)), st) else none
  | .ixA n sz agg x i => (evalO fr x).bind fun a => (evalO fr i).bind fun b => (intOf? b).bind fun i => match a with
    | .agg cs => (inRange i n).bind fun k => if k * sz + sz ≤ cs.length then (aggOr agg ((cs.drop (k * sz)).take sz)).bind fun u => some (u, st) else none
    | _ => none
  | .ixS x i => (evalO fr x).bind fun a => (evalO fr i).bind fun b => (intOf? b).bind fun i => match a with
    | .str l => (inRange i l.length).bind fun k => (l[k]?).bind fun c => some (.int .u8 c.toNat, st)
    | _ => none
  | .ext x i => (evalO fr x).bind fun a => match a with
    | .tup vs => (vs[i]?).bind fun v => some (v, st)
    | _ => none
  | .mkf f cap => (evalOs fr cap).bind fun vs => some (.fn f vs, st)
  | .mkm => some (.map st.next, st.newM)
  | .mks sz bytes z mu l c => (evalO fr l).bind fun a => (evalO fr c).bind fun b => match a, b with
    | .int .i64 n, .int .i64 k => if 0 ≤ n ∧ n ≤ k ∧ k * bytes ≤ 140737488355328 ∧ k ≤ 140737488355328 then
        (if mu then some (.ref sz st.next 0 n.toNat k.toNat, st.newC (List.replicate k.toNat z.cells).flatten)
         else if n = k then some (.lst sz (List.replicate n.toNat z.wk) .exact, st) else none) else none
    | _, _ => none
  | .sl sz x lo hi mx => (evalO fr x).bind fun a => match a with
    | .lst s l c => if s = sz then
        (bnd fr mx l.length l.length).bind fun m => (bnd fr hi l.length m).bind fun h => (bnd fr lo 0 h).bind fun b =>
          if mx.isNone ∨ h = m then some (.lst sz ((l.take h).drop b) (slCap mx.isSome c), st) else none
      else none
    | .ref s id off len cap => if s = sz ∧ mx.isNone then (bnd fr hi len cap).bind fun h => (bnd fr lo 0 h).bind fun b =>
        some (.ref sz id (if cap = b then off else off + b * sz) (h - b) (cap - b), st) else none
    | _ => none
  | .slA n sz x lo hi => (evalO fr x).bind fun a => match a with
    | .ptr id off => (bnd fr hi n n).bind fun h => (bnd fr lo 0 h).bind fun b => some (.ref sz id (if n = b then off else off + b * sz) (h - b) (n - b), st)
    | .ep cs => if sz = 1 ∧ n ≤ cs.length then (bnd fr hi n n).bind fun h => (bnd fr lo 0 h).bind fun b => some (.lst 1 ((cs.take h).drop b) (if h = n then .full else .unk), st) else none
    | _ => none
  | .slS x lo hi => (evalO fr x).bind fun a => match a with
    | .str l => (bnd fr hi l.length l.length).bind fun h => (bnd fr lo 0 h).bind fun b => some (.str ((l.take h).drop b), st)
    | _ => none
  | .look z x k ok => (evalO fr x).bind fun a => (evalO fr k).bind fun b => match a, b with
    | .map id, .int kk i => (st.maps id).bind fun m => (lookM m kk i).bind fun r => some (if ok then .tup [r.getD z, .bool r.isSome] else r.getD z, st)
    | .nilm, .int _ _ => some (if ok then .tup [z, .bool false] else z, st)
    | _, _ => none
  | .mup m k v => (evalO fr m).bind fun a => (evalO fr k).bind fun b => (evalO fr v).bind fun u => match a, b with
    | .map id, .int kk i => (st.maps id).bind fun m => (lookM m kk i).bind fun _ => some (.tup [], st.setM id (updM m kk i u.wk))
    | _, _ => none
  | .del m k => (evalO fr m).bind fun a => (evalO fr k).bind fun b => match a, b with
    | .map id, .int kk i => (st.maps id).bind fun m => (lookM m kk i).bind fun _ => some (.tup [], st.setM id (delM m i))
    | _, _ => none
  | .len k x => (evalO fr x).bind fun a => if cls a ≠ k then none else match a with
    | .lst _ l _ => some (.int .i64 l.length, st)
    | .ref _ _ _ n _ => some (.int .i64 n, st)
    | .str l => some (.int .i64 l.length, st)
    | .nilm => some (.int .i64 0, st)
    | .map id => (st.maps id).bind fun m => some (.int .i64 m.length, st)
    | _ => none
  | .lenA n => some (.int .i64 n, st)
  | .capv x => (evalO fr x).bind fun a => match a with
    | .ref _ _ _ _ c => some (.int .i64 c, st)
    | .lst _ _ .nil => some (.int .i64 0, st)
    | .lst _ l .exact => some (.int .i64 l.length, st)
    | .lst _ l .full => some (.int .i64 l.length, st)
    | _ => none
  | .mm isMax xs => (evalOs fr xs).bind fun vs => match vs with
    | [.int k a, .int _ b] => some (.int k (if isMax then (if b > a then b else a) else (if b < a then b else a)), st)
    | [.int k a, .int _ b, .int _ c] =>
      let m := if isMax then (if b > a then b else a) else (if b < a then b else a)
      some (.int k (if isMax then (if c > m then c else m) else (if c < m then c else m)), st)
    | _ => none
  | .app sz bytes mu x y => (evalO fr x).bind fun a => (evalO fr y).bind fun b => match a with
    | .lst s l c => if s = sz ∧ mu = false then (elemsOf st sz b).bind fun m =>
        if (canApp st c = true ∨ m.isEmpty = true) ∧ (l.length + m.length) * bytes ≤ 140737488355328 ∧ l.length + m.length ≤ 140737488355328 then
          some (.lst sz (l ++ m) (appCap st c m), appSt st c m) else none
      else none
    | .ref s id off len cap => if s = sz ∧ mu = false then (elemsOf st sz b).bind fun m => (st.cells id).bind fun cs =>
        if len + m.length ≤ cap ∧ off + cap * sz ≤ cs.length then some (.ref sz id off (len + m.length) cap, st.setC id (repl cs (off + len * sz) (flat m))) else none
      else none
    | _ => none
  | .appz sz bytes z x n => (evalO fr x).bind fun a => (evalO fr n).bind fun b => match a, b with
    | .lst s l c, .int .i64 k => if s = sz ∧ 0 ≤ k then
        let m := List.replicate k.toNat z
        if (canApp st c = true ∨ m.isEmpty = true) ∧ (l.length + m.length) * bytes ≤ 140737488355328 ∧ l.length + m.length ≤ 140737488355328 then
          some (.lst sz (l ++ m) (appCap st c m), appSt st c m) else none
      else none
    | _, _ => none
  | .cpy sz x y => (evalO fr x).bind fun a => (evalO fr y).bind fun b => match a with
    | .ref s id off len _ => if s = sz then (elemsOf st sz b).bind fun m => (st.cells id).bind fun cs =>
        if off + (min m.length len) * sz ≤ cs.length then some (.int .i64 (min m.length len : Nat), st.setC id (repl cs off (flat (m.take (min m.length len))))) else none
      else none
    | _ => none
  | .mki t x => (evalO fr x).bind fun v => some (.iface t v, st)
  | .mark x => (evalO fr x).bind fun v => match v with
    | .lst s l .exact => some (.lst s l .exact, st)
    | _ => none
  | .arr n sz x => (evalO fr x).bind fun v => match v with
    | .lst s l _ => if s = sz ∧ 0 < n ∧ n ≤ l.length then some (.ep (flat (l.take n)), st) else none
    | .ref s id off len _ => if s = sz ∧ n ≤ len then some (.ptr id off, st) else none
    | _ => none
  | .b2s x => (evalO fr x).bind fun v => match v with
    | .lst 1 l _ => (strOf l).bind fun s => some (.str s, st)
    | _ => none
  | .s2b x => (evalO fr x).bind fun v => match v with
    | .str s => if s.length ≤ 140737488355328 then some (.lst 1 (s.map fun c => V.int .u8 c.toNat) (.tail st.next), st.newT) else none
    | _ => none
def tab64 : List Nat := [0, 1, 56, 2, 57, 49, 28, 3, 61, 58, 42, 50, 38, 29, 17, 4, 62, 47, 59, 36, 45, 43, 51, 22, 53, 39, 33, 30, 24, 18, 12, 5, 63, 55, 48, 27, 60, 41, 37, 16, 46, 35, 44, 21, 52, 32, 23, 11, 54, 26, 40, 15, 34, 20, 31, 10, 25, 14, 19, 9, 13, 8, 7, 6]
def tabs (P : Program) : List (Nat × List Value) :=
  match P.globals.toList.findIdx? (fun gl => gl.name == "math/bits.deBruijn64tab") with
  | some k => [(k, tab64.map fun (n : Nat) => Value.int .u8 (n : Int))]
  | none => []
def mkEnv (P : Program) (n : Nat) : Env := ⟨n, tabs P⟩
def szIs (P : Program) (t : TypeId) (n : Nat) : Bool := match P.info? t with | some i => i.size == n | none => false
def bytesIs (P : Program) (t : TypeId) (n : Nat) : Bool := match P.info? t with | some i => i.bytes == n | none => false
def aggIs (P : Program) (t : TypeId) (b : Bool) : Bool :=
  match P.underlying t with
  | some (.struct _) => b
  | some (.array ..) => b
  | some _ => !b
  | none => false
def zeroIs (P : Program) (t : TypeId) (z : V) : Bool := match P.info? t with | some i => (match i.zero with | some v => cv z v | none => false) | none => false
theorem run_sizeOf_is {P : Program} {t n : Nat} (h : szIs P t n = true) (w : World) : (sizeOf t).run P w = .ok n w := by
  unfold szIs at h
  split at h
  · rename_i i hi
    simp at h
    simp [sizeOf, typeInfo, hi, h]
  · cases h
theorem run_isAgg_is {P : Program} {t : TypeId} {b : Bool} (h : aggIs P t b = true) (w : World) : (isAgg t).run P w = .ok b w := by
  unfold aggIs at h
  cases hu : P.underlying t with
  | none => simp [hu] at h
  | some d => cases d <;> simp [hu] at h <;> simp [isAgg, underlying, hu, h]
theorem run_zero_is {P : Program} {t : TypeId} {z : V} (h : zeroIs P t z = true) (w : World) : ∃ c, (zeroValue t).run P w = .ok c w ∧ cv z c = true := by
  unfold zeroIs at h
  split at h
  · rename_i i hi
    split at h
    · rename_i v hv
      exact ⟨v, by simp [zeroValue, typeInfo, hi, hv], h⟩
    · cases h
  · cases h
end Go.Sim
