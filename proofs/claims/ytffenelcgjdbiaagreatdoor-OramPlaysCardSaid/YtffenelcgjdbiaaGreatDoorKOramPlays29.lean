/- Merged by a program of mine (pack.py) out of my own texts; what is not used is left out. -/
import Derived.Test.YtffenelcgjdbiaaGreatDoorKOramPlays28
set_option linter.unusedVariables false
set_option linter.unusedSimpArgs false
namespace Go.Sim
open Go
section
variable {P : Program} {bn : Nat} {N : Nat}
theorem FRel.putO {g : G} {fr : Fr} {a : Act} (x : FRel g N fr a.tmps) {d d' : Option Nat} (hd : dstOk N d d' = true) {v : V} {c : Value} (h : VRel g v c) : FRel g N (putO fr d' v) (a.put d c).tmps := by
  unfold dstOk at hd
  split at hd
  · exact x
  · simp only [Bool.and_eq_true, beq_iff_eq, decide_eq_true_eq] at hd
    obtain ⟨rfl, hlt⟩ := hd
    exact x.put hlt h
  · cases hd
theorem put_defers (a : Act) (d : Option Nat) (c : Value) : (a.put d c).defers = a.defers := by cases d <;> rfl
theorem guard_sound {ops : Array Oper} {gd gd' : Option (Nat × Bool)} {o : Oper} (hg : o.guard = gd) (hc : chkGuard ops.toList gd gd' = true) {g : G} {fr : Fr} {a : Act} (hF : FRel g N fr a.tmps) :
    (gd' = none ∧ Region.wanted o (yielded ops a.tmps) = true) ∨ (∃ k want, gd' = some (k, want) ∧ ∀ b, gval want (look fr k) = some b → Region.wanted o (yielded ops a.tmps) = b) := by
  unfold chkGuard at hc
  split at hc
  · left; exact ⟨rfl, by simp [Region.wanted, hg]⟩
  · rename_i j b k c
    simp only [Bool.and_eq_true, beq_iff_eq] at hc
    obtain ⟨rfl, hc⟩ := hc
    right
    refine ⟨k, b, rfl, fun b' hb' => ?_⟩
    simp only [Array.getElem?_toList] at hc
    cases hd' : (ops[j]?).bind (·.dst) with
    | none => simp [hd'] at hc
    | some d =>
      simp only [hd', beq_iff_eq] at hc
      subst hc
      unfold gval at hb'
      split at hb'
      · rename_i b2 hb2
        obtain ⟨cc, hcc, hr⟩ := hF.slot _ _ hb2
        cases hr
        cases hb'
        simp only [Region.wanted, hg, yielded, hd', Option.bind_some, hcc]
        cases b <;> cases b2 <;> rfl
      · rename_i hb2
        obtain ⟨cc, hcc, hr⟩ := hF.slot _ _ hb2
        cases hr
        cases hb'
        simp only [Region.wanted, hg, yielded, hd', Option.bind_some, hcc]
        cases b <;> rfl
      · cases hb'
  · cases hc
theorem awpS_sound {ops : Array Oper} {Q : Exit → Act → World → Prop} : ∀ {l : List Oper} {ss : List AS} {fr : Fr} {st : St} {Qa : Fr → St → Prop} {R : V → St → Prop} {g : G} {a : Act} {w : World},
    chkSs P N ops.toList l ss = true → awpS P ss fr st Qa R → FRel g N fr a.tmps → WRel (mkEnv P bn) g st w →
    (∀ g' fr' st' a' w', Qa fr' st' → FRel g' N fr' a'.tmps → WRel (mkEnv P bn) g' st' w' → Step g w g' w' → a'.defers = a.defers → Q .normal a' w') →
    (∀ g' fr' st' v c a' w', R v st' → VRel g' v c → FRel g' N fr' a'.tmps → WRel (mkEnv P bn) g' st' w' → Step g w g' w' → a'.defers = a.defers → Q (.panic [{ v := c, recovered := false }]) a' w') →
    wpList P ops Q l a w := by
  intro l
  induction l with
  | nil =>
    intro ss fr st Qa R g a w hc h hF hW hQ hR
    cases ss with
    | nil => exact hQ g fr st a w h hF hW (.refl g w) rfl
    | cons => simp [chkSs] at hc
  | cons o l ih =>
    intro ss fr st Qa R g a w hc h hF hW hQ hR
    cases ss with
    | nil => simp [chkSs] at hc
    | cons s ss =>
      simp only [chkSs, chkS, Bool.and_eq_true] at hc
      obtain ⟨⟨⟨hd, hg⟩, ho⟩, hl⟩ := hc
      have doit : awpO P s.op fr st (fun v st' => awpS P ss (putO fr s.dst v) st' Qa R) R → o.wp P a w (wpList P ops Q l) Q := by
        intro h
        refine awpO_sound ho hF hW h ?_ ?_
        · intro g' st' v c w' hk hr hW' hS
          refine ih hl hk ((hF.mono hS.le).putO hd hr) hW' ?_ ?_
          · intro g2 fr2 st2 a2 w2 q1 q2 q3 q4 q5
            exact hQ g2 fr2 st2 a2 w2 q1 q2 q3 (hS.trans q4) (q5.trans (put_defers _ _ _))
          · intro g2 fr2 st2 v2 c2 a2 w2 q1 q2 q3 q4 q5 q6
            exact hR g2 fr2 st2 v2 c2 a2 w2 q1 q2 q3 q4 (hS.trans q5) (q6.trans (put_defers _ _ _))
        · intro g' st' v c w' hk hr hW' hS
          exact hR g' fr st' v c a w' hk hr (hF.mono hS.le) hW' hS rfl
      unfold wpList
      rcases guard_sound rfl hg hF with ⟨hn, hw⟩ | ⟨k, want, hsome, hw⟩
      · rw [if_pos hw]
        simp only [awpS, hn] at h
        exact .inl (doit h)
      · simp only [awpS, hsome] at h
        cases hb : gval want (look fr k) with
        | none => simp [hb] at h
        | some b =>
            simp only [hb] at h
            have hw' := hw b hb
            by_cases hbw : b = true
            · rw [if_pos hbw] at h
              rw [if_pos (by rw [hw']; simpa using hbw)]
              exact .inl (doit h)
            · rw [if_neg hbw] at h
              rw [if_neg (by rw [hw']; simpa using hbw)]
              refine ih hl h (hF.putO hd (v := .tup []) (c := undef) (.tup (by simp) (fun i v c hi => by simp at hi))) hW ?_ ?_
              · intro g2 fr2 st2 a2 w2 q1 q2 q3 q4 q5
                exact hQ g2 fr2 st2 a2 w2 q1 q2 q3 q4 (q5.trans (put_defers _ _ _))
              · intro g2 fr2 st2 v2 c2 a2 w2 q1 q2 q3 q4 q5 q6
                exact hR g2 fr2 st2 v2 c2 a2 w2 q1 q2 q3 q4 q5 (q6.trans (put_defers _ _ _))
inductive AE where
  | normal
  | exit (id : Nat)
  | ret
  | pan (v : V)
def XRel (g : G) : AE → Exit → Prop
  | .normal, .normal => True
  | .exit i, .exit j => i = j
  | .ret, .ret => True
  | .pan v, .panic ch => ∃ c, ch = [{ v := c, recovered := false }] ∧ VRel g v c
  | _, _ => False
def Post (B : Env) (N : Nat) (g : G) (w : World) (D : List Deferred) (Q : AE → Fr → St → Prop) : Exit → Act → World → Prop :=
  fun e a' w' => ∃ g' fr' st' e', XRel g' e' e ∧ FRel g' N fr' a'.tmps ∧ WRel B g' st' w' ∧ Step g w g' w' ∧ a'.defers = D ∧ Q e' fr' st'
theorem Post.lift {B : Env} {g g1 : G} {w w1 : World} {D : List Deferred} {Q : AE → Fr → St → Prop} (hS : Step g w g1 w1) {e : Exit} {a' : Act} {w' : World} (h : Post B N g1 w1 D Q e a' w') : Post B N g w D Q e a' w' := by
  obtain ⟨g', fr', st', e', h1, h2, h3, h4, h5, h6⟩ := h
  exact ⟨g', fr', st', e', h1, h2, h3, hS.trans h4, h5, h6⟩
inductive DI where
  | fl (i : Nat) (s : AS)
  | al (i : Nat) (s : AS)
  | an (i : Nat) (s : AS) (re : List (Nat × AS))
  deriving Inhabited
def evalS (s : AS) (fr : Fr) (st : St) : Option Fr :=
  match s.op with
  | .op o => match s.guard with
    | none => (evalA o fr st).bind fun x => some (putO fr s.dst x.1)
    | some (j, want) => match gval want (look fr j) with
      | some b => if b = true then (evalA o fr st).bind fun x => some (putO fr s.dst x.1) else some (putO fr s.dst (.tup []))
      | none => none
  | _ => none
def hasD (fr : Fr) (d : Option Nat) (v : V) : Prop := match d with | some d => look fr d = some v | none => True
def Fact (s : AS) (fr : Fr) (st : St) : Prop :=
  match s.op with
  | .op o => match s.guard with
    | none => ∃ v, evalA o fr st = some (v, st) ∧ hasD fr s.dst v
    | some (j, want) => match gval want (look fr j) with
      | some b => if b = true then ∃ v, evalA o fr st = some (v, st) ∧ hasD fr s.dst v else hasD fr s.dst (.tup [])
      | none => False
  | _ => False
def reOk (fr : Fr) (st : St) : List (Nat × AS) → Prop
  | [] => True
  | x :: r => Fact x.2 fr st ∧ reOk fr st r
def awpD (P : Program) : List DI → Fr → St → (Fr → St → Prop) → (V → St → Prop) → Prop
  | [], fr, st, Q, _ => Q fr st
  | .fl _ s :: rest, fr, st, Q, R => match evalS s fr st with
    | some fr1 => awpD P rest fr1 st Q R
    | none => False
  | .al _ s :: rest, fr, st, Q, R => match s.op with
    | .op (.alloc z) => awpD P rest (putO fr s.dst (.ptr st.next 0)) (st.newC z) Q R
    | _ => False
  | .an _ s re :: rest, fr, st, Q, R => match s.guard with
    | none => awpO P s.op fr st (fun v st' => reOk (putO fr s.dst v) st' re ∧ awpD P rest (putO fr s.dst v) st' Q R) R
    | some (j, want) => match gval want (look fr j) with
      | some b => if b = true then awpO P s.op fr st (fun v st' => reOk (putO fr s.dst v) st' re ∧ awpD P rest (putO fr s.dst v) st' Q R) R
        else reOk (putO fr s.dst (.tup [])) st re ∧ awpD P rest (putO fr s.dst (.tup [])) st Q R
      | none => False
inductive AC where
  | skip
  | reg (ss : List AS)
  | dreg (T : List Nat) (AN AL : Nat) (ds : List DI)
  | seq (a b : AC)
  | cond (c : AO) (a b : AC)
  | block (id : Nat) (c : AC)
  | loop (live : List Nat) (c : AC)
  | exit (id : Nat)
  | ret
  | only (live : List Nat) (c : AC)
  | frz (t : Nat) (agg : Bool) (c : AC)
  deriving Inhabited
def doFrz (t : Nat) (agg : Bool) (fr : Fr) (st : St) : Option (Fr × St) :=
  match look fr t with
  | some (.ref sz id off len cap) => (st.cells id).bind fun cs => (frzL agg sz off len cap cs).bind fun l => some (put fr t (.lst sz l (.tail st.next)), (st.killC id).newT)
  | some (.ptr id 0) => (st.cells id).bind fun cs => some (put fr t (.ep cs), (st.killC id).newT)
  | _ => none
def awp (P : Program) : AC → Fr → St → (AE → Fr → St → Prop) → Prop
  | .skip, fr, st, Q => Q .normal fr st
  | .reg ss, fr, st, Q => awpS P ss fr st (fun fr' st' => Q .normal fr' st') (fun v st' => Q (.pan v) [] st')
  | .dreg _ _ _ ds, fr, st, Q => awpD P ds fr st (fun fr' st' => Q .normal fr' st') (fun v st' => Q (.pan v) [] st')
  | .seq x y, fr, st, Q => awp P x fr st fun e fr' st' => match e with | .normal => awp P y fr' st' Q | e => Q e fr' st'
  | .cond c x y, fr, st, Q => match evalO fr c with
    | some (.bool b) => (b = true → awp P x fr st Q) ∧ (b = false → awp P y fr st Q)
    | _ => False
  | .block id x, fr, st, Q => awp P x fr st fun e fr' st' => match e with | .exit id' => if id' = id then Q .normal fr' st' else Q (.exit id') fr' st' | e => Q e fr' st'
  | .loop live x, fr, st, Q => ∃ I : Nat → Fr → St → Prop, (∃ n, I n (only live fr) st) ∧
      ∀ n fr1 st1, I n fr1 st1 → awp P x fr1 st1 fun e fr' st' => match e with | .normal => ∃ m, m < n ∧ I m (only live fr') st' | e => Q e fr' st'
  | .exit id, fr, st, Q => Q (.exit id) fr st
  | .ret, fr, st, Q => Q .ret fr st
  | .only live x, fr, st, Q => awp P x (only live fr) st Q
  | .frz t agg x, fr, st, Q => match doFrz t agg fr st with
    | some (fr', st') => awp P x fr' st' Q
    | none => False
end
end Go.Sim
