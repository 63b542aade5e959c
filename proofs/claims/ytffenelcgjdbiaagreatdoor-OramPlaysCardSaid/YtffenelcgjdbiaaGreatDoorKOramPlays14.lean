/- Merged by a program of mine (pack.py) out of my own texts; what is not used is left out. -/
import Derived.Test.YtffenelcgjdbiaaGreatDoorKOramPlays13
set_option linter.unusedVariables false
set_option linter.unusedSimpArgs false
namespace Go.Sim
open Go
inductive AO where
  | t (i : Nat)
  | c (v : V)
  | f (f : FuncId)
  deriving Inhabited
abbrev Fr := List (Nat × V)
def look : Fr → Nat → Option V
  | [], _ => none
  | (j, v) :: r, i => if j = i then some v else look r i
def put : Fr → Nat → V → Fr
  | [], d, v => [(d, v)]
  | (j, u) :: r, d, v => if j = d then (d, v) :: r else (j, u) :: put r d v
theorem look_put (fr : Fr) (d : Nat) (v : V) (i : Nat) : look (put fr d v) i = if d = i then some v else look fr i := by
  induction fr with
  | nil => simp [put, look]
  | cons x r ih =>
    obtain ⟨j, u⟩ := x
    simp only [put]
    by_cases h : j = d
    · subst h
      simp only [if_true, look]
      by_cases h2 : j = i <;> simp [h2]
    · simp only [if_neg h, look, ih]
      by_cases h2 : j = i
      · subst h2
        simp [show ¬ d = j from fun e => h e.symm]
      · simp [h2]
def only (live : List Nat) (fr : Fr) : Fr := live.filterMap fun i => (look fr i).map fun v => (i, v)
theorem look_only (live : List Nat) (fr : Fr) (i : Nat) (v : V) (h : look (only live fr) i = some v) : look fr i = some v := by
  induction live with
  | nil => simp [only, look] at h
  | cons j r ih =>
    simp only [only, List.filterMap_cons] at h
    cases hj : look fr j with
    | none => rw [hj] at h; exact ih h
    | some u =>
      rw [hj] at h
      simp only [Option.map_some, look] at h
      by_cases e : j = i
      · subst e; simp only [if_true] at h; rw [hj]; exact h
      · rw [if_neg e] at h; exact ih h
def evalO (fr : Fr) : AO → Option V
  | .t i => look fr i
  | .c v => some v
  | .f f => some (.fn f [])
def evalOs (fr : Fr) : List AO → Option (List V)
  | [] => some []
  | x :: r => (evalO fr x).bind fun v => (evalOs fr r).bind fun vs => some (v :: vs)
structure FRel (g : G) (N : Nat) (fr : Fr) (tmps : Array Value) : Prop where
  size : tmps.size = N
  slot : ∀ i v, look fr i = some v → ∃ c, tmps[i]? = some c ∧ VRel g v c
theorem FRel.mono {g h : G} (H : g.le h) {N : Nat} {fr : Fr} {tmps : Array Value} (x : FRel g N fr tmps) : FRel h N fr tmps :=
  ⟨x.size, fun i v hi => let ⟨c, hc, hr⟩ := x.slot i v hi; ⟨c, hc, hr.mono H⟩⟩
theorem FRel.put {g : G} {N : Nat} {fr : Fr} {tmps : Array Value} (x : FRel g N fr tmps) {d : Nat} (hd : d < N) {v : V} {c : Value} (h : VRel g v c) :
    FRel g N (put fr d v) (tmps.setIfInBounds d c) := by
  refine ⟨by simp [x.size], fun i u hi => ?_⟩
  rw [look_put] at hi
  by_cases e : d = i
  · subst e
    simp only [if_true, Option.some.injEq] at hi
    subst hi
    exact ⟨c, by simp [x.size, hd], h⟩
  · rw [if_neg e] at hi
    obtain ⟨c', hc, hr⟩ := x.slot i u hi
    exact ⟨c', by rw [Array.getElem?_setIfInBounds_ne e]; exact hc, hr⟩
theorem FRel.only {g : G} {N : Nat} {fr : Fr} {tmps : Array Value} (x : FRel g N fr tmps) (live : List Nat) : FRel g N (only live fr) tmps :=
  ⟨x.size, fun i v hi => x.slot i v (look_only live fr i v hi)⟩
def cv1 : V → Value → Bool
  | .bool a, .bool b => a == b
  | .int j a, .int k b => j == k && a == b
  | .float j a, .float k b => j == k && a == b
  | .str l, .string s => s.data.toList == l
  | .nilp, .pointer none => true
  | .lst _ [] .nil, .slice none 0 0 => true
  | .nilm, .map none => true
  | .nilf, .nilFunc => true
  | .nili, .nilIface => true
  | _, _ => false
def cvs : List V → List Value → Bool
  | [], [] => true
  | a :: l, b :: m => cv1 a b && cvs l m
  | _, _ => false
def cv : V → Value → Bool
  | .agg l, .agg m => cvs l m.toList
  | .tup l, .tuple m => cvs l m.toList
  | a, b => cv1 a b
theorem cv1_sound {a : V} {b : Value} (h : cv1 a b = true) (g : G) : VRel g a b ∧ a.one = true := by
  unfold cv1 at h
  split at h <;> simp at h
  · subst h; exact ⟨.bool _, rfl⟩
  · obtain ⟨rfl, rfl⟩ := h; exact ⟨.int _ _, rfl⟩
  · obtain ⟨rfl, rfl⟩ := h; exact ⟨.float (.inl rfl), rfl⟩
  · subst h; exact ⟨.str rfl, rfl⟩
  · exact ⟨.nilp, rfl⟩
  · exact ⟨.lst (cvs := []) rfl (by simp) (by simp [flat]) ⟨rfl, rfl, rfl⟩ (fun j c hj => by simp at hj) rfl (fun i v c hi => by simp [flat] at hi), rfl⟩
  · exact ⟨.nilm, rfl⟩
  · exact ⟨.nilf, rfl⟩
  · exact ⟨.nili, rfl⟩
theorem cvs_sound {l : List V} {m : List Value} (h : cvs l m = true) (g : G) : LR (VRel g) l m ∧ ∀ v ∈ l, v.one = true := by
  induction l generalizing m with
  | nil =>
    cases m with
    | nil => exact ⟨LR.nil, by simp⟩
    | cons => simp [cvs] at h
  | cons a l ih =>
    cases m with
    | nil => simp [cvs] at h
    | cons b m =>
      simp only [cvs, Bool.and_eq_true] at h
      have h1 := cv1_sound h.1 g
      have h2 := ih h.2
      refine ⟨LR.cons h1.1 h2.1, ?_⟩
      intro v hv
      rcases List.mem_cons.1 hv with rfl | hv
      · exact h1.2
      · exact h2.2 v hv
theorem cv_sound {a : V} {b : Value} (h : cv a b = true) (g : G) : VRel g a b := by
  unfold cv at h
  split at h
  · have := cvs_sound h g; exact .agg this.2 this.1.1 this.1.2
  · have := cvs_sound h g; exact .tup this.1.1 this.1.2
  · exact (cv1_sound h g).1
def chkO : Operand → AO → Bool
  | .tmp i, .t j => i == j
  | .const v, .c a => cv a v
  | .func f, .f g => f == g
  | _, _ => false
theorem chkO_sound {x : Operand} {y : AO} (h : chkO x y = true) {g : G} {N : Nat} {fr : Fr} {a : Act} (hF : FRel g N fr a.tmps) {v : V} (hv : evalO fr y = some v) : VRel g v (a.eval x) := by
  unfold chkO at h
  split at h
  · simp at h; subst h
    obtain ⟨c, hc, hr⟩ := hF.slot _ _ hv
    simp only [Act.eval, Array.getD_eq_getD_getElem?, hc, Option.getD_some]
    exact hr
  · simp only [evalO, Option.some.injEq] at hv
    subst hv
    exact cv_sound h g
  · simp at h; subst h
    simp only [evalO, Option.some.injEq] at hv
    subst hv
    exact .fn (by simp) (fun i v c hi => by simp at hi)
  · cases h
def chkOs : List Operand → List AO → Bool
  | [], [] => true
  | x :: r, y :: s => chkO x y && chkOs r s
  | _, _ => false
theorem chkOs_sound {xs : List Operand} {ys : List AO} (h : chkOs xs ys = true) {g : G} {N : Nat} {fr : Fr} {a : Act} (hF : FRel g N fr a.tmps) {vs : List V} (hv : evalOs fr ys = some vs) : LR (VRel g) vs (xs.map a.eval) := by
  induction xs generalizing ys vs with
  | nil =>
    cases ys with
    | nil => simp [evalOs] at hv; subst hv; exact LR.nil
    | cons => simp [chkOs] at h
  | cons x xs ih =>
    cases ys with
    | nil => simp [chkOs] at h
    | cons y ys =>
      simp only [chkOs, Bool.and_eq_true] at h
      simp only [evalOs] at hv
      cases h1 : evalO fr y with
      | none => simp [h1] at hv
      | some v =>
        cases h2 : evalOs fr ys with
        | none => simp [h1, h2] at hv
        | some ws =>
          simp [h1, h2] at hv
          subst hv
          exact LR.cons (chkO_sound h.1 hF h1) (ih h.2 h2)
def nextVal : Next → Option Value
  | .value v => some v
  | .skip => some undef
  | _ => none
def Good (P : Program) (B : Env) (g : G) (w : World) (o : Oper) (a : Act) (v : V) (st' : St) : Prop :=
  ∃ n g' c w', (execOp a.eval o).run P w = .ok n w' ∧ nextVal n = some c ∧ VRel g' v c ∧ WRel B g' st' w' ∧ Step g w g' w'
theorem Good.pure {P : Program} {B : Env} {g : G} {w : World} {o : Oper} {a : Act} {v : V} {st : St} (hW : WRel B g st w) {c : Value}
    (h : (execOp a.eval o).run P w = .ok (.value c) w) (hr : VRel g v c) : Good P B g w o a v st :=
  ⟨.value c, g, c, w, h, rfl, hr, hW, .refl g w⟩
def iop (op : BinOp) (k : IntKind) (a b : Int) : Option V :=
  match op with
  | .add => some (.int k (k.wrap (a + b)))
  | .sub => some (.int k (k.wrap (a - b)))
  | .mul => some (.int k (k.wrap (a * b)))
  | .quo => if b = 0 then none else some (.int k (k.wrap (a.tdiv b)))
  | .rem => if b = 0 then none else some (.int k (a.tmod b))
  | .and => some (.int k (k.wrap (BitVec.ofInt k.bits a &&& BitVec.ofInt k.bits b).toNat))
  | .or => some (.int k (k.wrap (BitVec.ofInt k.bits a ||| BitVec.ofInt k.bits b).toNat))
  | .xor => some (.int k (k.wrap (BitVec.ofInt k.bits a ^^^ BitVec.ofInt k.bits b).toNat))
  | .andNot => some (.int k (k.wrap (BitVec.ofInt k.bits a &&& ~~~ BitVec.ofInt k.bits b).toNat))
  | .eql => some (.bool (a == b))
  | .neq => some (.bool (a != b))
  | .lss => some (.bool (decide (a < b)))
  | .leq => some (.bool (decide (a ≤ b)))
  | .gtr => some (.bool (decide (a > b)))
  | .geq => some (.bool (decide (a ≥ b)))
  | _ => none
def sop (op : BinOp) (a b : List UInt8) : Option V :=
  match op with
  | .eql => some (.bool (a == b))
  | .neq => some (.bool (!(a == b)))
  | .lss => some (.bool (Op.bytesLess a b))
  | .leq => some (.bool (Op.bytesLess a b || a == b))
  | .gtr => some (.bool (!(Op.bytesLess a b || a == b)))
  | .geq => some (.bool (!Op.bytesLess a b))
  | .add => if a.length + b.length ≤ 140737488355328 then some (.str (a ++ b)) else none
  | _ => none
def binV (op : BinOp) : V → V → Option V
  | .int k a, .int k' b =>
    match op with
    | .shl => if b < 0 then none else some (.int k (k.wrap (a * 2 ^ min b.toNat k.bits)))
    | .shr => if b < 0 then none else some (.int k (a.fdiv (2 ^ min b.toNat k.bits)))
    | _ => if k = k' then iop op k a b else none
  | .str a, .str b => sop op a b
  | _, _ => none
theorem toList_data (s : ByteArray) : s.toList = s.data.toList := by
  have key : ∀ (n i : Nat) (r : List UInt8), s.size - i = n → ByteArray.toList.loop s i r = r.reverse ++ s.data.toList.drop i := by
    intro n
    induction n with
    | zero =>
      intro i r h
      unfold ByteArray.toList.loop
      rw [if_neg (by omega)]
      have : s.data.toList.drop i = [] := List.drop_eq_nil_of_le (by simp; exact Nat.le_of_sub_eq_zero h)
      simp [this]
    | succ n ih =>
      intro i r h
      unfold ByteArray.toList.loop
      have hi : i < s.size := by omega
      rw [if_pos hi, ih (i + 1) _ (by omega)]
      have hl : i < s.data.toList.length := by simpa using hi
      rw [List.drop_eq_getElem_cons hl]
      have e : s.get! i = s.data.toList[i] := by
        have hd : i < s.data.size := hi
        simp [ByteArray.get!, getElem!_def, Array.getElem?_eq_getElem hd]
      simp [e]
  have := key s.size 0 [] (by omega)
  simpa [ByteArray.toList] using this
theorem binV_sound {P : Program} {op : BinOp} {t : TypeId} {x y : V} {v : V} {g : G} {cx cy : Value} (h : binV op x y = some v) (hx : VRel g x cx) (hy : VRel g y cy) (X Y : Operand) (w : World) :
    ∃ c, (do eqGuard op t X Y cx cy; binOp op t cx cy : Sem Value).run P w = .ok c w ∧ VRel g v c := by
  unfold binV at h
  split at h
  · rename_i k a k' b
    cases hx; cases hy
    have hg : eqGuard op t X Y (.int k a) (.int k' b) = pure () := by cases op <;> rfl
    rw [hg]
    split at h
    · split at h
      · cases h
      · rename_i hb
        simp only [Option.some.injEq] at h; subst h
        exact ⟨_, by simp [binOp, Op.shift, hb], .int _ _⟩
    · split at h
      · cases h
      · rename_i hb
        simp only [Option.some.injEq] at h; subst h
        exact ⟨_, by simp [binOp, Op.shift, hb], .int _ _⟩
    · split at h
      · rename_i hk; subst hk
        unfold iop at h
        cases op <;> simp at h <;> first
          | (subst h; refine ⟨_, ?_, .int _ _⟩; simp [binOp, Op.intArith, Op.intBits, Op.intCmp]; done)
          | (subst h; refine ⟨_, ?_, .bool _⟩; simp [binOp, Op.intArith, Op.intBits, Op.intCmp]; done)
          | (obtain ⟨hb, rfl⟩ := h; refine ⟨_, ?_, .int _ _⟩; simp [binOp, Op.intDiv, hb]; done)
          | contradiction
      · cases h
  · rename_i a b
    cases hx; rename_i sa ha
    cases hy; rename_i sb hb
    have hg : eqGuard op t X Y (.string sa) (.string sb) = pure () := by cases op <;> rfl
    rw [hg]
    have hlen : ∀ s : ByteArray, s.data.toList.length = s.size := fun s => by rw [Array.length_toList]; rfl
    unfold sop at h
    cases op <;> simp only [Option.some.injEq, reduceCtorEq, Option.ite_none_right_eq_some] at h <;> first
      | (subst h; subst ha; subst hb; refine ⟨_, ?_, .bool _⟩; simp only [binOp, Op.stringOp, toList_data]; rfl)
      | (obtain ⟨hl, rfl⟩ := h; subst ha; subst hb
         refine ⟨.string (sa ++ sb), ?_, .str (by simp)⟩
         simp only [hlen] at hl
         have h2 : ¬ IntKind.i64.max < ((sa.size + sb.size : Nat) : Int) := by rw [IntKind.max_i64]; omega
         simp only [binOp, Op.stringOp, gt_iff_lt, h2, if_false]; rfl)
      | contradiction
  · cases h
end Go.Sim
