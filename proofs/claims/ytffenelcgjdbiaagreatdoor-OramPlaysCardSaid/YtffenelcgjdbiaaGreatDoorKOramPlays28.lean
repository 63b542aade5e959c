/- Merged by a program of mine (pack.py) out of my own texts; what is not used is left out. -/
import Derived.Test.YtffenelcgjdbiaaGreatDoorKOramPlays27
set_option linter.unusedVariables false
set_option linter.unusedSimpArgs false
namespace Go.Sim
open Go
inductive Res where
  | ret (v : V)
  | pan (v : V)
def ERel (g : G) : Res → Ending → Prop
  | .ret v, .returned c => VRel g v c
  | .pan v, .panicked ch => ∃ c, ch = [{ v := c, recovered := false }] ∧ VRel g v c
  | _, _ => False
def RCall (P : Program) (f : FuncId) (args : List V) (st : St) (Q : Res → St → Prop) : Prop :=
  ∀ bn g w (cargs : Array Value), WRel (mkEnv P bn) g st w → LR (VRel g) args cargs.toList →
    Calls P f cargs w fun e w' => ∃ g' st' r, ERel g' r e ∧ WRel (mkEnv P bn) g' st' w' ∧ Step g w g' w' ∧ Q r st'
theorem RCall.mono {P : Program} {f : FuncId} {args : List V} {st : St} {Q Q' : Res → St → Prop} (h : RCall P f args st Q) (hq : ∀ r st', Q r st' → Q' r st') : RCall P f args st Q' :=
  fun bn g w cargs hW hA => (h bn g w cargs hW hA).mono fun _ _ ⟨g', st', r, h1, h2, h3, h4⟩ => ⟨g', st', r, h1, h2, h3, hq _ _ h4⟩
inductive SOp where
  | op (o : AOp)
  | call (f : FuncId) (args : List AO)
  | callv (x : AO) (args : List AO)
  | pan (x : AO)
  | appm (sz bytes : Nat) (z : V) (zz : Bool) (x y : AO)
  | nilq (neq : Bool) (x : AO)
  deriving Inhabited
structure AS where
  dst : Option Nat
  guard : Option (Nat × Bool)
  op : SOp
  deriving Inhabited
def putO (fr : Fr) (d : Option Nat) (v : V) : Fr :=
  match d with
  | some d => put fr d v
  | none => fr
def callOk (P : Program) (f : FuncId) : Bool :=
  match P.funcs[f]? with
  | some fn => fn.body.isSome && fn.name != "runtime.NumGoroutine"
  | none => false
def awpO (P : Program) (o : SOp) (fr : Fr) (st : St) (K : V → St → Prop) (R : V → St → Prop) : Prop :=
  match o with
  | .op o => match evalA o fr st with
    | some (v, st') => K v st'
    | none => False
  | .call f args => match evalOs fr args with
    | some vs => RCall P f vs st fun r st' => match r with
      | .ret v => K v st'
      | .pan v => R v st'
    | none => False
  | .callv x args => match evalO fr x, evalOs fr args with
    | some (.fn f caps), some vs => callOk P f = true ∧ RCall P f (vs ++ caps) st fun r st' => match r with
      | .ret v => K v st'
      | .pan v => R v st'
    | _, _ => False
  | .pan x => match evalO fr x with
    | some (.iface t v) => R (.iface t v) st
    | _ => False
  | .appm sz bytes z zz x y => match evalO fr x, evalO fr y with
    | some a, some b => appmQ sz bytes z zz a b st K
    | _, _ => False
  | .nilq neq x => match evalO fr x with
    | some a => nilqQ neq a st K
    | none => False
def gval (want : Bool) : Option V → Option Bool
  | some (.bool b) => some (b == want)
  | some (.tup []) => some false
  | _ => none
def awpS (P : Program) : List AS → Fr → St → (Fr → St → Prop) → (V → St → Prop) → Prop
  | [], fr, st, Q, _ => Q fr st
  | s :: r, fr, st, Q, R =>
    match s.guard with
    | none => awpO P s.op fr st (fun v st' => awpS P r (putO fr s.dst v) st' Q R) R
    | some (j, want) => match gval want (look fr j) with
      | some b => if b = true then awpO P s.op fr st (fun v st' => awpS P r (putO fr s.dst v) st' Q R) R else awpS P r (putO fr s.dst (.tup [])) st Q R
      | none => False
def chkSOp (P : Program) (op : Op) (s : SOp) : Bool :=
  match op, s with
  | .call { callee := .value (.func f), args, .. }, .call f' args' => f == f' && callOk P f && chkOs args.toList args'
  | .call { callee := .value x, args, .. }, .callv x' args' => chkO x x' && chkOs args.toList args'
  | .panic x, .pan y => chkO x y
  | .call { callee := .builtin .append, args, argTypes := ts }, .appm sz bytes z zz x' y' => match args.toList, ts.toList with
    | [x, y], t :: t2 :: _ => elemZero P t sz bytes && elemZ P t z && (if zz then isIntT P t2 else notInt P t2) && chkO x x' && chkO y y'
    | _, _ => false
  | .binOp .eql t x y _, .nilq false x' => kindIs P t 3 && chkO x x' && chkO y (.c (.lst 1 [] .nil))
  | .binOp .neq t x y _, .nilq true x' => kindIs P t 3 && chkO x x' && chkO y (.c (.lst 1 [] .nil))
  | op, .op o => chkOp P op o
  | _, _ => false
def dstOk (N : Nat) : Option Nat → Option Nat → Bool
  | none, none => true
  | some d, some e => d == e && decide (d < N)
  | _, _ => false
def chkGuard (ops : List Oper) : Option (Nat × Bool) → Option (Nat × Bool) → Bool
  | none, none => true
  | some (j, b), some (k, c) => b == c && (match (ops[j]?).bind (·.dst) with | some d => d == k | none => false)
  | _, _ => false
def chkS (P : Program) (N : Nat) (ops : List Oper) (o : Oper) (s : AS) : Bool := dstOk N o.dst s.dst && chkGuard ops o.guard s.guard && chkSOp P o.op s.op
def chkSs (P : Program) (N : Nat) (ops : List Oper) : List Oper → List AS → Bool
  | [], [] => true
  | o :: r, s :: t => chkS P N ops o s && chkSs P N ops r t
  | _, _ => false
section
variable {P : Program} {bn : Nat} {N : Nat}
theorem run_callFunc {f : FuncId} (h : callOk P f = true) (args : Array Value) (w : World) : (callFunc f args).run P w = .ok (.enter f args) w := by
  unfold callOk at h
  cases hf : P.funcs[f]? with
  | none => simp [hf] at h
  | some fn =>
    simp only [hf, Bool.and_eq_true, bne_iff_ne, ne_eq] at h
    obtain ⟨h1, h2⟩ := h
    have h2' : (fn.name == "runtime.NumGoroutine") = false := by simpa using h2
    have h3 : fn.body ≠ none := by cases hb : fn.body <;> simp_all
    simp [callFunc, hf, h2, h3]
theorem awpO_sound {o : Oper} {s : SOp} {fr : Fr} {st : St} {K R : V → St → Prop} {g : G} {a : Act} {w : World} {next : Act → World → Prop} {Q : Exit → Act → World → Prop}
    (hc : chkSOp P o.op s = true) (hF : FRel g N fr a.tmps) (hW : WRel (mkEnv P bn) g st w) (h : awpO P s fr st K R)
    (hK : ∀ g' st' v c w', K v st' → VRel g' v c → WRel (mkEnv P bn) g' st' w' → Step g w g' w' → next (a.put o.dst c) w')
    (hR : ∀ g' st' v c w', R v st' → VRel g' v c → WRel (mkEnv P bn) g' st' w' → Step g w g' w' → Q (.panic [{ v := c, recovered := false }]) a w') :
    o.wp P a w next Q := by
  have called : ∀ {f : FuncId} {vs : List V} {cargs : Array Value}, (execOp a.eval o).run P w = .ok (.enter f cargs) w → LR (VRel g) vs cargs.toList →
      RCall P f vs st (fun r st' => match r with | .ret v => K v st' | .pan v => R v st') → o.wp P a w next Q := by
    intro f vs cargs hrun hA hcall
    unfold Oper.wp
    rw [hrun, Oper.upon_enter]
    refine (hcall bn g w cargs hW hA).mono ?_
    rintro e w' ⟨g', st', r, hE, hW', hS, hq⟩
    cases e with
    | returned c =>
      cases r with
      | ret v => exact hK g' st' v c w' hq hE hW' hS
      | pan v => exact hE.elim
    | panicked ch =>
      cases r with
      | ret v => exact hE.elim
      | pan v =>
        obtain ⟨c, rfl, hr⟩ := hE
        exact hR g' st' v c w' hq hr hW' hS
    | outgrown => cases r <;> exact hE.elim
  cases s with
  | op ao =>
    have hc' : chkOp P o.op ao = true := by
      unfold chkSOp at hc
      split at hc
      · rename_i h1; cases h1
      · rename_i h1; cases h1
      · rename_i h1; cases h1
      · rename_i h1; cases h1
      · rename_i h1; cases h1
      · rename_i h1; cases h1
      · rename_i h1; cases h1; exact hc
      · cases hc
    simp only [awpO] at h
    cases he : evalA ao fr st with
    | none => rw [he] at h; exact h.elim
    | some r =>
      obtain ⟨v, st'⟩ := r
      rw [he] at h
      obtain ⟨n, g', c, w', hrun, hn, hr, hW', hS⟩ := evalA_sound hc' hF hW he
      unfold Oper.wp
      rw [hrun]
      cases n <;> simp [nextVal] at hn
      · subst hn; exact hK g' st' v _ w' h hr hW' hS
      · subst hn; exact hK g' st' v _ w' h hr hW' hS
  | call f args =>
    generalize ho : o.op = op at hc
    unfold chkSOp at hc
    split at hc
    · rename_i f0 args0 ts f1 args1 h1
      cases h1
      simp only [Bool.and_eq_true, beq_iff_eq] at hc
      obtain ⟨⟨rfl, hok⟩, hargs⟩ := hc
      simp only [awpO] at h
      cases hv : evalOs fr args with
      | none => rw [hv] at h; exact h.elim
      | some vs =>
        rw [hv] at h
        have hA := chkOs_sound hargs hF hv
        refine called (f := f0) (cargs := args0.map a.eval) ?_ (by simpa using hA) h
        simp [execOp, ho, resolve, Act.eval, Deferred.ofValue, invoke, run_callFunc hok]
    all_goals first | (rename_i h1; cases h1; done) | cases hc
  | callv x args =>
    generalize ho : o.op = op at hc
    unfold chkSOp at hc
    split at hc
    · rename_i h1; cases h1
    · rename_i x0 args0 ts x1 args1 h1
      cases h1
      simp only [Bool.and_eq_true] at hc
      obtain ⟨hx, hargs⟩ := hc
      simp only [awpO] at h
      cases hxv : evalO fr x with
      | none => rw [hxv] at h; exact h.elim
      | some fv =>
        cases hv : evalOs fr args with
        | none => rw [hxv, hv] at h; cases fv <;> exact h.elim
        | some vs =>
          rw [hxv, hv] at h
          cases fv with
          | fn f caps =>
            obtain ⟨hok, h⟩ := h
            have hr := chkO_sound hx hF hxv
            have hA := chkOs_sound hargs hF hv
            generalize hxe : a.eval x0 = cx at hr
            cases hr with
            | fn hl hr' =>
              rename_i cvs
              refine called (f := f) (cargs := args0.map a.eval ++ cvs) ?_ ?_ h
              · simp [execOp, ho, resolve, hxe, Deferred.ofValue, invoke, run_callFunc hok]
              · simp only [Array.toList_append, Array.toList_map]
                exact hA.append ⟨hl, hr'⟩
          | _ => exact h.elim
    all_goals first | (rename_i h1; cases h1; done) | cases hc
  | pan x =>
    generalize ho : o.op = op at hc
    unfold chkSOp at hc
    split at hc
    · rename_i h1; cases h1
    · rename_i h1; cases h1
    · rename_i x0 x1 h1
      cases h1
      simp only [awpO] at h
      cases hxv : evalO fr x with
      | none => rw [hxv] at h; exact h.elim
      | some fv =>
        rw [hxv] at h
        cases fv with
        | iface t v =>
          have hr := chkO_sound hc hF hxv
          generalize hxe : a.eval x0 = cx at hr
          cases hr with
          | iface hv =>
            rename_i c
            unfold Oper.wp
            have : (execOp a.eval o).run P w = .halt (.panic (.iface t c)) w := by simp [execOp, ho, hxe, Instr.panic]
            rw [this]
            exact hR g st _ _ w h (.iface hv) hW (.refl g w)
        | _ => exact h.elim
    all_goals first | (rename_i h1; cases h1; done) | cases hc
  | appm sz bytes z zz x y =>
    generalize ho : o.op = op at hc
    unfold chkSOp at hc
    split at hc
    · rename_i h1; cases h1
    · rename_i h1; cases h1
    · rename_i h1; cases h1
    · rename_i args0 ts0 sz0 bytes0 z0 zz0 x0 y0 h1
      cases h1
      split at hc
      · rename_i xa ya t t2 r hargs hts
        simp only [Bool.and_eq_true] at hc
        obtain ⟨⟨⟨⟨c1, c2⟩, c3⟩, c4⟩, c5⟩ := hc
        obtain ⟨c21, c22⟩ := elemZ_some c2
        obtain rfl := toArr2 hargs
        simp only [awpO] at h
        split at h
        · rename_i p q hp hq
          obtain ⟨v, st', hk, n, g', c, w', hrun, hn, hr, hW', hS⟩ := sound_appm (B := mkEnv P bn) (K := K) ho (get0 hts) (get1 hts) c1 c21 c22 c3 c4 c5 hF hW hp hq h
          unfold Oper.wp
          rw [hrun]
          cases n <;> simp [nextVal] at hn
          · subst hn; exact hK g' st' v _ w' hk hr hW' hS
          · subst hn; exact hK g' st' v _ w' hk hr hW' hS
        · exact h.elim
      · cases hc
    all_goals first | (rename_i h1; cases h1; done) | cases hc
  | nilq neq x =>
    have key : ∃ t xa ya u, o.op = .binOp (if neq then .neq else .eql) t xa ya u ∧ kindIs P t 3 = true ∧ chkO xa x = true ∧ chkO ya (.c (.lst 1 [] .nil)) = true := by
      generalize o.op = op at hc
      unfold chkSOp at hc
      split at hc <;> first
        | (rename_i h1; cases h1; done)
        | (rename_i t xa ya u x' h1; cases h1; simp only [Bool.and_eq_true] at hc; exact ⟨t, xa, ya, u, rfl, hc.1.1, hc.1.2, hc.2⟩)
        | cases hc
    obtain ⟨t, xa, ya, u, ho, c1, c2, c3⟩ := key
    simp only [awpO] at h
    split at h
    · rename_i p hp
      obtain ⟨v, st', hk, n, g', c, w', hrun, hn, hr, hW', hS⟩ := sound_nilq (B := mkEnv P bn) (K := K) ho c1 c2 c3 hF hW hp h
      unfold Oper.wp
      rw [hrun]
      cases n <;> simp [nextVal] at hn
      · subst hn; exact hK g' st' v _ w' hk hr hW' hS
      · subst hn; exact hK g' st' v _ w' hk hr hW' hS
    · exact h.elim
end
end Go.Sim
