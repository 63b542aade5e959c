/- Merged by a program of mine (pack.py) out of my own texts; what is not used is left out. -/
import Derived.Test.YtffenelcgjdbiaaGreatDoorKOramPlays38
set_option linter.unusedVariables false
set_option linter.unusedSimpArgs false
namespace Go.Sim
open Go
inductive An where
  | d
  | n (sh : Sh)
  | c (sh : Sh) (pan : Bool)
structure RS where
  s : AS
  an : An
  lit : Bool
inductive RD where
  | fl (i : Nat) (s : RS)
  | al (i : Nat) (s : AS)
  | an (i : Nat) (s : RS) (re : List (Nat × AS))
inductive RSX where
  | one (s : RS)
  | grp (ss : List RS) (live vary : List Nat) (shs : List Sh1)
inductive RDX where
  | one (d : RD)
  | grp (ds : List RD) (live vary : List Nat) (shs : List Sh1)
inductive AR where
  | skip
  | reg (ss : List RSX)
  | dreg (T : List Nat) (AN AL : Nat) (ds : List RDX)
  | seq (a b : AR)
  | seqK (live vary : List Nat) (shs : List Sh1) (a b : AR)
  | cond (c : AO) (lit : Bool) (a b : AR)
  | block (id : Nat) (c : AR)
  | loop (live vary : List Nat) (shs : List Sh1) (c : AR)
  | exit (id : Nat)
  | ret
  | only (live : List Nat) (c : AR)
  | frz (t : Nat) (agg : Bool) (c : AR)
def RD.er : RD → DI
  | .fl i s => .fl i s.s
  | .al i s => .al i s
  | .an i s re => .an i s.s re
def RSX.er : RSX → List AS
  | .one s => [s.s]
  | .grp ss _ _ _ => ss.map (·.s)
def RDX.er : RDX → List DI
  | .one d => [d.er]
  | .grp ds _ _ _ => ds.map RD.er
def rsEr : List RSX → List AS
  | [] => []
  | x :: r => x.er ++ rsEr r
def rdEr : List RDX → List DI
  | [] => []
  | x :: r => x.er ++ rdEr r
def AR.er : AR → AC
  | .skip => .skip
  | .reg ss => .reg (rsEr ss)
  | .dreg T AN AL ds => .dreg T AN AL (rdEr ds)
  | .seq a b => .seq a.er b.er
  | .seqK live _ _ a b => .seq a.er (.only live b.er)
  | .cond c _ a b => .cond c a.er b.er
  | .block id c => .block id c.er
  | .loop live _ _ c => .loop live c.er
  | .exit id => .exit id
  | .ret => .ret
  | .only live c => .only live c.er
  | .frz t agg c => .frz t agg c.er
def rRes (an : An) (r : Res) (K R : V → Prop) : Prop :=
  match an with
  | .c sh false => sh.ex fun v => r = .ret v ∧ K v
  | .c sh true => (sh.ex fun v => r = .ret v ∧ K v) ∨ ∃ v, r = .pan v ∧ R v
  | _ => match r with
    | .ret v => K v
    | .pan v => R v
def rA (an : An) (o : AOp) (fr : Fr) (st : St) (K : V → St → Prop) : Prop :=
  match an with
  | .n sh => evalN sh o fr st K
  | _ => evalD o fr st K
def rO (P : Program) (an : An) (o : SOp) (fr : Fr) (st : St) (K R : V → St → Prop) : Prop :=
  match o with
  | .op o => rA an o fr st K
  | .call f args => match evalOs fr args with
    | some vs => RCall P f vs st fun r st' => rRes an r (fun v => K v st') (fun v => R v st')
    | none => False
  | .callv x args => match evalO fr x, evalOs fr args with
    | some (.fn f caps), some vs => callOk P f = true ∧ RCall P f (vs ++ caps) st fun r st' => rRes an r (fun v => K v st') (fun v => R v st')
    | _, _ => False
  | .pan x => match evalO fr x with
    | some (.iface t v) => R (.iface t v) st
    | _ => False
  | .nilq neq x => match evalO fr x with
    | some (.lst s l c) => if s = 0 then False else ∀ b : Bool, (b = true → l = []) → (c = .nil → b = true) → K (.bool (bif neq then !b else b)) st
    | some (.ref _ _ _ _ _) => K (.bool neq) st
    | _ => False
  | .appm sz bytes z zz x y => match evalO fr x, evalO fr y with
    | some (.lst s l c), some b => if s = sz then appmOk c = true ∧ ∃ m, appmEl st sz z zz b = some m ∧ m ≠ [] ∧ (l.length + m.length) * (bytes + 1) ≤ 140737488355328 ∧
        ∀ k st', l.length + m.length ≤ k → st' = st.newC (flat l ++ flat m ++ spare z (l.length + m.length) k) → K (.ref sz st.next 0 (l.length + m.length) k) st' else False
    | _, _ => False
def rG (lit : Bool) (fr : Fr) (j : Nat) (want : Bool) (A B : Fr → Prop) : Prop :=
  match look fr j with
  | some (.bool b) => bif lit then (if b = want then A fr else B fr)
    else (b = want → A (put fr j (.bool want))) ∧ (b = !want → B (put fr j (.bool !want)))
  | some (.tup []) => B fr
  | _ => False
def rC (lit : Bool) (fr : Fr) (j : Nat) (A B : Fr → Prop) : Prop :=
  match look fr j with
  | some (.bool b) => bif lit then (if b = true then A fr else B fr)
    else (b = true → A (put fr j (.bool true))) ∧ (b = false → B (put fr j (.bool false)))
  | _ => False
def rS (P : Program) : List RS → Fr → St → (Fr → St → Prop) → (V → St → Prop) → Prop
  | [], fr, st, Q, _ => Q fr st
  | s :: r, fr, st, Q, R =>
    match s.s.guard with
    | none => rO P s.an s.s.op fr st (fun v st' => rS P r (putO fr s.s.dst v) st' Q R) R
    | some (j, want) => rG s.lit fr j want (fun fr => rO P s.an s.s.op fr st (fun v st' => rS P r (putO fr s.s.dst v) st' Q R) R) (fun fr => rS P r (putO fr s.s.dst (.tup [])) st Q R)
def fact0 (o : SOp) (dst : Option Nat) (fr : Fr) (st : St) : Prop :=
  match o, dst with
  | .op (.ld n agg x), some d => match evalO fr x, look fr d with
    | some (.ptr id off), some v => st.ldv id off n agg = some v
    | some (.ep cs), some v => fldV cs 0 n agg = some v
    | _, _ => False
  | .op (.look z x k false), some d => match evalO fr x, evalO fr k, look fr d with
    | some (.map id), some (.int kk i), some v => ∃ b, st.mlook id kk i z = some (v, b)
    | _, _, _ => False
  | .op (.look z x k true), some d => match evalO fr x, evalO fr k, look fr d with
    | some (.map id), some (.int kk i), some (.tup [v, .bool b]) => st.mlook id kk i z = some (v, b)
    | _, _, _ => False
  | .op (.len k x), some d => match evalO fr x, look fr d with
    | some (.map id), some (.int .i64 n) => if k = 2 then ∃ m, st.maps id = some m ∧ n = m.length else False
    | _, _ => False
  | .op (.b2s x), some d => match evalO fr x, look fr d with
    | some (.lst 1 l _), some (.str s) => strOf l = some s
    | _, _ => False
  | _, _ => False
def factN (s : AS) (fr : Fr) (st : St) : Prop :=
  match s.guard with
  | none => fact0 s.op s.dst fr st
  | some (j, want) => match gval want (look fr j) with
    | some true => fact0 s.op s.dst fr st
    | some false => match s.dst with
      | none => True
      | some d => match look fr d with | some (.tup []) => True | _ => False
    | none => False
def reN (fr : Fr) (st : St) : List (Nat × AS) → Prop → Prop
  | [], K => K
  | x :: r, K => match x.2.op with
    | .op _ => factN x.2 fr st ∧ reN fr st r K
    | _ => False
def rD (P : Program) : List RD → Fr → St → (Fr → St → Prop) → (V → St → Prop) → Prop
  | [], fr, st, Q, _ => Q fr st
  | .fl _ s :: rest, fr, st, Q, R => match s.s.op with
    | .op o => match s.s.guard with
      | none => rA s.an o fr st fun v _ => rD P rest (putO fr s.s.dst v) st Q R
      | some (j, want) => rG s.lit fr j want (fun fr => rA s.an o fr st fun v _ => rD P rest (putO fr s.s.dst v) st Q R) (fun fr => rD P rest (putO fr s.s.dst (.tup [])) st Q R)
    | _ => False
  | .al _ s :: rest, fr, st, Q, R => match s.op with
    | .op (.alloc z) => ∀ st', st' = st.newC z → rD P rest (putO fr s.dst (.ptr st.next 0)) st' Q R
    | _ => False
  | .an _ s re :: rest, fr, st, Q, R => match s.s.guard with
    | none => rO P s.an s.s.op fr st (fun v st' => reN (putO fr s.s.dst v) st' re (rD P rest (putO fr s.s.dst v) st' Q R)) R
    | some (j, want) => rG s.lit fr j want (fun fr => rO P s.an s.s.op fr st (fun v st' => reN (putO fr s.s.dst v) st' re (rD P rest (putO fr s.s.dst v) st' Q R)) R)
        (fun fr => reN (putO fr s.s.dst (.tup [])) st re (rD P rest (putO fr s.s.dst (.tup [])) st Q R))
def looks (fr : Fr) : List Nat → Option (List V)
  | [] => some []
  | i :: r => match look fr i, looks fr r with
    | some v, some vs => some (v :: vs)
    | _, _ => none
def putAll (fr : Fr) : List Nat → List V → Fr
  | i :: r, v :: vs => put (putAll fr r vs) i v
  | _, _ => fr
def constOk (live vary : List Nat) (fr fr' : Fr) : Bool := live.all fun i => vary.contains i || !(look fr i).isSome || (look fr' i).isSome
def within (W live vary : List Nat) : Bool := W.all fun i => vary.contains i || !live.contains i
def joinQ (live vary : List Nat) (shs : List Sh1) (K : sh1sFn shs (St → Prop)) (fr fr' : Fr) (st' : St) : Prop :=
  match looks fr' vary with
  | some vs => bif sh1sChk shs vs && constOk live vary fr fr' then sh1sApp shs (fun _ => False) K vs st' else False
  | none => False
def ssW (ss : List AS) : List Nat := ss.flatMap fun s => s.dst.toList
def dsW (ds : List DI) : List Nat := ds.flatMap fun d => match d with | .fl _ s => s.dst.toList | .al _ s => s.dst.toList | .an _ s _ => s.dst.toList
def rSX (P : Program) : List RSX → Fr → St → (Fr → St → Prop) → (V → St → Prop) → Prop
  | [], fr, st, Q, _ => Q fr st
  | .one s :: r, fr, st, Q, R => rS P [s] fr st (fun fr st => rSX P r fr st Q R) R
  | .grp ss live vary shs :: r, fr, st, Q, R => bif within (ssW (ss.map (·.s))) live vary then
      ∀ K : sh1sFn shs (St → Prop), (sh1sAll shs fun vs => ∀ st', rSX P r (only live (putAll fr vary vs)) st' Q R → sh1sApp shs (fun _ => False) K vs st') →
        rS P ss fr st (fun fr' st' => joinQ live vary shs K fr fr' st') R
      else False
def rDX (P : Program) : List RDX → Fr → St → (Fr → St → Prop) → (V → St → Prop) → Prop
  | [], fr, st, Q, _ => Q fr st
  | .one s :: r, fr, st, Q, R => rD P [s] fr st (fun fr st => rDX P r fr st Q R) R
  | .grp ss live vary shs :: r, fr, st, Q, R => bif within (dsW (ss.map RD.er)) live vary then
      ∀ K : sh1sFn shs (St → Prop), (sh1sAll shs fun vs => ∀ st', rDX P r (only live (putAll fr vary vs)) st' Q R → sh1sApp shs (fun _ => False) K vs st') →
        rD P ss fr st (fun fr' st' => joinQ live vary shs K fr fr' st') R
      else False
def acW : AC → List Nat
  | .reg ss => ss.flatMap fun s => s.dst.toList
  | .dreg _ _ _ ds => ds.flatMap fun d => match d with | .fl _ s => s.dst.toList | .al _ s => s.dst.toList | .an _ s _ => s.dst.toList
  | .seq x y => acW x ++ acW y
  | .cond _ x y => acW x ++ acW y
  | .block _ x => acW x
  | .loop _ x => acW x
  | .only _ x => acW x
  | .frz t _ x => t :: acW x
  | _ => []
def rwp (P : Program) : AR → Fr → St → (AE → Fr → St → Prop) → Prop
  | .skip, fr, st, Q => Q .normal fr st
  | .reg ss, fr, st, Q => rSX P ss fr st (fun fr' st' => Q .normal fr' st') (fun v st' => Q (.pan v) [] st')
  | .dreg _ _ _ ds, fr, st, Q => rDX P ds fr st (fun fr' st' => Q .normal fr' st') (fun v st' => Q (.pan v) [] st')
  | .seq x y, fr, st, Q => rwp P x fr st fun e fr' st' => match e with | .normal => rwp P y fr' st' Q | e => Q e fr' st'
  | .seqK live vary shs x y, fr, st, Q => bif within (acW x.er) live vary then
      ∀ K : sh1sFn shs (St → Prop), (sh1sAll shs fun vs => ∀ st', rwp P y (only live (putAll fr vary vs)) st' Q → sh1sApp shs (fun _ => False) K vs st') →
        rwp P x fr st fun e fr' st' => match e with | .normal => joinQ live vary shs K fr fr' st' | e => Q e fr' st'
      else False
  | .cond c lit x y, fr, st, Q => match c with
    | .t j => rC lit fr j (fun fr => rwp P x fr st Q) (fun fr => rwp P y fr st Q)
    | c => match evalO fr c with
      | some (.bool b) => if b = true then rwp P x fr st Q else rwp P y fr st Q
      | _ => False
  | .block id x, fr, st, Q => rwp P x fr st fun e fr' st' => match e with | .exit id' => if id' = id then Q .normal fr' st' else Q (.exit id') fr' st' | e => Q e fr' st'
  | .loop live vary shs x, fr, st, Q => bif within (acW x.er) live vary then
      ∃ J : Nat → sh1sFn shs (St → Prop),
        (match looks fr vary with
        | some vs => bif sh1sChk shs vs then ∃ n, sh1sApp shs (fun _ => False) (J n) vs st else False
        | none => False) ∧
        ∀ n, sh1sAll shs fun vs => ∀ st1, sh1sApp shs (fun _ => False) (J n) vs st1 → rwp P x (only live (putAll fr vary vs)) st1 fun e fr' st' => match e with
          | .normal => (match looks fr' vary with
            | some vs' => bif sh1sChk shs vs' && constOk live vary fr fr' then ∃ m, m < n ∧ sh1sApp shs (fun _ => False) (J m) vs' st' else False
            | none => False)
          | e => Q e fr' st'
      else False
  | .exit id, fr, st, Q => Q (.exit id) fr st
  | .ret, fr, st, Q => Q .ret fr st
  | .only live x, fr, st, Q => rwp P x (only live fr) st Q
  | .frz t agg x, fr, st, Q => match look fr t with
    | some (.ref sz id off len cap) => ∃ cs l, st.cells id = some cs ∧ frzL agg sz off len cap cs = some l ∧ ∀ st', st' = (st.killC id).newT → rwp P x (put fr t (.lst sz l (.tail st.next))) st' Q
    | some (.ptr id 0) => ∃ cs, st.cells id = some cs ∧ ∀ st', st' = (st.killC id).newT → rwp P x (put fr t (.ep cs)) st' Q
    | _ => False
theorem put_look : ∀ {fr : Fr} {j : Nat} {v : V}, look fr j = some v → put fr j v = fr
  | [], j, v, h => by simp [look] at h
  | (i, u) :: r, j, v, h => by
    simp only [look] at h
    simp only [put]
    by_cases e : i = j
    · rw [if_pos e] at h ⊢
      cases h; rw [e]
    · rw [if_neg e] at h ⊢
      rw [put_look h]
theorem rC_some {lit : Bool} {fr : Fr} {j : Nat} {A B : Fr → Prop} (h : rC lit fr j A B) : ∃ b, look fr j = some (.bool b) ∧ (if b = true then A fr else B fr) := by
  unfold rC at h
  split at h
  · rename_i b hb
    refine ⟨b, hb, ?_⟩
    cases lit with
    | true => exact h
    | false =>
      simp only [cond_false] at h
      cases b with
      | true =>
        have := h.1 rfl
        rw [put_look hb] at this
        exact this
      | false =>
        have := h.2 rfl
        rw [put_look hb] at this
        exact this
  · exact h.elim
theorem rG_some {lit : Bool} {fr : Fr} {j : Nat} {want : Bool} {A B : Fr → Prop} (h : rG lit fr j want A B) : ∃ b, gval want (look fr j) = some b ∧ (if b = true then A fr else B fr) := by
  unfold rG at h
  split at h
  · rename_i b hb
    refine ⟨b == want, by rw [hb]; rfl, ?_⟩
    cases lit with
    | true =>
      simp only [cond_true] at h
      by_cases e : b = want
      · rw [if_pos e] at h; simpa [e] using h
      · rw [if_neg e] at h; rw [if_neg (by simpa using e)]; exact h
    | false =>
      simp only [cond_false] at h
      by_cases e : b = want
      · have := h.1 e
        rw [← e, put_look hb] at this
        rw [if_pos (by simpa using e)]; exact this
      · have e' : b = !want := by cases b <;> cases want <;> simp_all
        have := h.2 e'
        rw [← e', put_look hb] at this
        rw [if_neg (by simpa using e)]; exact this
  · rename_i hb
    exact ⟨false, by rw [hb]; rfl, h⟩
  · exact h.elim
theorem rRes_some {an : An} {r : Res} {K R : V → Prop} : rRes an r K R → (match r with | .ret v => K v | .pan v => R v) := by
  intro h
  unfold rRes at h
  split at h
  · obtain ⟨v, hr, hk⟩ := Sh.ex_some h; rw [hr]; exact hk
  · rcases h with h | ⟨v, hr, hk⟩
    · obtain ⟨v, hr, hk⟩ := Sh.ex_some h; rw [hr]; exact hk
    · rw [hr]; exact hk
  · exact h
theorem rA_some {an : An} {o : AOp} {fr : Fr} {st : St} {K : V → St → Prop} (h : rA an o fr st K) : ∃ v st', evalA o fr st = some (v, st') ∧ K v st' := by
  unfold rA at h
  split at h
  · exact evalN_some h
  · exact evalD_some h
section
variable {P : Program}
theorem rO_sound {an : An} {o : SOp} {fr : Fr} {st : St} {K R : V → St → Prop} (h : rO P an o fr st K R) : awpO P o fr st K R := by
  cases o with
  | op o =>
    obtain ⟨v, st', he, hk⟩ := rA_some h
    simp only [awpO, he]; exact hk
  | call f args =>
    simp only [rO] at h
    simp only [awpO]
    split at h
    · rename_i vs hv
      rw [hv]
      exact h.mono fun r st' hr => rRes_some hr
    · exact h.elim
  | callv x args =>
    simp only [rO] at h
    simp only [awpO]
    split at h
    · rename_i f caps vs hx hv
      rw [hx, hv]
      exact ⟨h.1, h.2.mono fun r st' hr => rRes_some hr⟩
    · exact h.elim
  | pan x => exact h
  | nilq neq x =>
    simp only [rO] at h
    simp only [awpO]
    split at h
    · rename_i s l c hx
      rw [hx]
      split at h
      · exact h.elim
      · rename_i hs
        exact ⟨hs, fun b h1 h2 => by have := h b h1 h2; cases neq <;> exact this⟩
    · rename_i hx; rw [hx]; exact h
    · exact h.elim
  | appm sz bytes z zz x y =>
    simp only [rO] at h
    simp only [awpO]
    split at h
    · rename_i s l c b hx hy
      split at h
      · rename_i hs
        obtain ⟨h1, m, h2, h3, h4, h5⟩ := h
        rw [hx, hy]
        exact ⟨hs, h1, m, h2, h3, h4, fun k hk => h5 k _ hk rfl⟩
      · exact h.elim
    · exact h.elim
theorem rO_mono {an : An} {o : SOp} {fr : Fr} {st : St} {K K' R R' : V → St → Prop} (hK : ∀ v st, K v st → K' v st) (hR : ∀ v st, R v st → R' v st) (h : rO P an o fr st K R) : awpO P o fr st K' R' :=
  awpO_mono hK hR (rO_sound h)
theorem rS_sound : ∀ {ss : List RS} {fr : Fr} {st : St} {Q : Fr → St → Prop} {R : V → St → Prop}, rS P ss fr st Q R → awpS P (ss.map (·.s)) fr st Q R
  | [], _, _, _, _, h => h
  | s :: r, fr, st, Q, R, h => by
    simp only [rS] at h
    simp only [List.map_cons, awpS]
    cases hg : s.s.guard with
    | none =>
      rw [hg] at h
      exact rO_mono (fun v st h => rS_sound h) (fun _ _ h => h) h
    | some p =>
      obtain ⟨j, want⟩ := p
      rw [hg] at h
      obtain ⟨b, hb, h⟩ := rG_some h
      simp only [hb]
      split at h
      · rename_i e; rw [if_pos e]; exact rO_mono (fun v st h => rS_sound h) (fun _ _ h => h) h
      · rename_i e; rw [if_neg e]; exact rS_sound h
theorem fact0_sound {o : SOp} {dst : Option Nat} {fr : Fr} {st : St} (h : fact0 o dst fr st) : ∃ ao, o = .op ao ∧ ∃ v, evalA ao fr st = some (v, st) ∧ hasD fr dst v := by
  unfold fact0 at h
  split at h
  · rename_i n agg x d
    refine ⟨_, rfl, ?_⟩
    simp only [hasD]
    split at h
    · rename_i id off v hx hv
      refine ⟨v, ?_, hv⟩
      simp only [St.ldv, Option.bind_eq_some_iff] at h
      obtain ⟨cs, hcs, h⟩ := h
      simp only [evalA, hx, Option.bind_some, hcs]
      split at h
      · rename_i hle; rw [if_pos hle, h]; rfl
      · cases h
    · rename_i cs v hx hv
      refine ⟨v, ?_, hv⟩
      simp only [fldV, Nat.zero_add, List.drop_zero] at h
      simp only [evalA, hx, Option.bind_some]
      split at h
      · rename_i hle; rw [if_pos hle, h]; rfl
      · cases h
    · exact h.elim
  · rename_i z x k d
    refine ⟨_, rfl, ?_⟩
    simp only [hasD]
    split at h
    · rename_i id kk i v hx hk hv
      obtain ⟨b, h⟩ := h
      simp only [St.mlook, Option.bind_eq_some_iff, Option.map_eq_some_iff, Prod.mk.injEq] at h
      obtain ⟨m, hm, r, hr, rfl, rfl⟩ := h
      exact ⟨_, by simp [evalA, hx, hk, hm, hr], hv⟩
    · exact h.elim
  · rename_i z x k d
    refine ⟨_, rfl, ?_⟩
    simp only [hasD]
    split at h
    · rename_i id kk i v b hx hk hv
      simp only [St.mlook, Option.bind_eq_some_iff, Option.map_eq_some_iff, Prod.mk.injEq] at h
      obtain ⟨m, hm, r, hr, rfl, rfl⟩ := h
      exact ⟨_, by simp [evalA, hx, hk, hm, hr], hv⟩
    · exact h.elim
  · rename_i k x d
    refine ⟨_, rfl, ?_⟩
    split at h
    · rename_i id n hx hv
      split at h
      · rename_i hk; subst hk
        obtain ⟨m, hm, rfl⟩ := h
        exact ⟨_, by simp [evalA, hx, hm, cls], hv⟩
      · exact h.elim
    · exact h.elim
  · rename_i x d
    refine ⟨_, rfl, ?_⟩
    simp only [hasD]
    split at h
    · rename_i l c s hx hv
      exact ⟨_, by simp [evalA, hx, h], hv⟩
    · exact h.elim
  · exact h.elim
theorem factN_sound {s : AS} {fr : Fr} {st : St} (h : factN s fr st) (ho : ∃ ao, s.op = .op ao) : Fact s fr st := by
  obtain ⟨ao, ho⟩ := ho
  unfold factN at h
  unfold Fact
  rw [ho] at h ⊢
  split at h
  · rename_i hg
    obtain ⟨ao', e, h⟩ := fact0_sound h
    cases e
    simp only [hg]; exact h
  · rename_i j want hg
    simp only [hg]
    split at h
    · rename_i hv
      obtain ⟨ao', e, h⟩ := fact0_sound h
      cases e
      simp only [hv, if_true]; exact h
    · rename_i hv
      simp only [hv, Bool.false_eq_true, if_false]
      split at h
      · rename_i hd; rw [hd]; trivial
      · rename_i d hd
        rw [hd]
        split at h
        · rename_i hl; exact hl
        · exact h.elim
    · exact h.elim
theorem reN_sound {fr : Fr} {st : St} {K : Prop} : ∀ {l : List (Nat × AS)}, reN fr st l K → reOk fr st l ∧ K
  | [], h => ⟨trivial, h⟩
  | x :: r, h => by
    simp only [reN] at h
    split at h
    · rename_i ao ho
      exact ⟨⟨factN_sound h.1 ⟨ao, ho⟩, (reN_sound h.2).1⟩, (reN_sound h.2).2⟩
    · exact h.elim
theorem rD_sound : ∀ {ds : List RD} {fr : Fr} {st : St} {Q : Fr → St → Prop} {R : V → St → Prop}, rD P ds fr st Q R → awpD P (ds.map RD.er) fr st Q R
  | [], _, _, _, _, h => h
  | .fl i s :: r, fr, st, Q, R, h => by
    simp only [rD] at h
    simp only [List.map_cons, RD.er, awpD, evalS]
    split at h
    · rename_i o ho
      rw [ho]
      cases hg : s.s.guard with
      | none =>
        rw [hg] at h
        obtain ⟨v, st', he, hk⟩ := rA_some h
        simp only [he, Option.bind_some]
        exact rD_sound hk
      | some p =>
        obtain ⟨j, want⟩ := p
        rw [hg] at h
        obtain ⟨b, hb, h⟩ := rG_some h
        simp only [hb]
        split at h
        · rename_i e
          rw [if_pos e]
          obtain ⟨v, st', he, hk⟩ := rA_some h
          simp only [he, Option.bind_some]
          exact rD_sound hk
        · rename_i e; rw [if_neg e]; exact rD_sound h
    · exact h.elim
  | .al i s :: r, fr, st, Q, R, h => by
    simp only [rD] at h
    simp only [List.map_cons, RD.er, awpD]
    split at h
    · rename_i z hz
      rw [hz]
      exact rD_sound (h _ rfl)
    · exact h.elim
  | .an i s re :: r, fr, st, Q, R, h => by
    simp only [rD] at h
    simp only [List.map_cons, RD.er, awpD]
    cases hg : s.s.guard with
    | none =>
      rw [hg] at h
      exact rO_mono (fun v st h => ⟨(reN_sound h).1, rD_sound (reN_sound h).2⟩) (fun _ _ h => h) h
    | some p =>
      obtain ⟨j, want⟩ := p
      rw [hg] at h
      obtain ⟨b, hb, h⟩ := rG_some h
      simp only [hb]
      split at h
      · rename_i e; rw [if_pos e]; exact rO_mono (fun v st h => ⟨(reN_sound h).1, rD_sound (reN_sound h).2⟩) (fun _ _ h => h) h
      · rename_i e; rw [if_neg e]; exact ⟨(reN_sound h).1, rD_sound (reN_sound h).2⟩
def Kept (W : List Nat) (fr fr' : Fr) : Prop := ∀ i, i ∉ W → ∀ v, look fr' i = some v → look fr i = some v
theorem Kept.refl (W : List Nat) (fr : Fr) : Kept W fr fr := fun _ _ _ h => h
theorem Kept.trans {W : List Nat} {a b c : Fr} (h : Kept W a b) (k : Kept W b c) : Kept W a c := fun i hi v hv => h i hi v (k i hi v hv)
theorem Kept.mono {W W' : List Nat} {a b : Fr} (h : Kept W a b) (k : ∀ i ∈ W, i ∈ W') : Kept W' a b := fun i hi => h i fun x => hi (k i x)
theorem Kept.putO (fr : Fr) (d : Option Nat) (v : V) : Kept d.toList fr (putO fr d v) := by
  intro i hi u hu
  cases d with
  | none => exact hu
  | some d =>
    have : ¬ d = i := fun e => hi (by simp [e])
    simpa [Sim.putO, look_put, this] using hu
theorem Kept.only (live : List Nat) (fr : Fr) : Kept [] fr (Sim.only live fr) := fun i _ v h => look_only live fr i v h
theorem Kept.nil (W : List Nat) (fr : Fr) : Kept W fr [] := fun i _ v h => by simp [look] at h
theorem awpS_frame : ∀ {ss : List AS} {fr : Fr} {st : St} {Q : Fr → St → Prop} {R : V → St → Prop}, awpS P ss fr st Q R → awpS P ss fr st (fun fr' st' => Q fr' st' ∧ Kept (ssW ss) fr fr') R
  | [], fr, _, _, _, h => ⟨h, .refl _ fr⟩
  | s :: r, fr, st, Q, R, h => by
    have step : ∀ v st', awpS P r (putO fr s.dst v) st' Q R → awpS P r (putO fr s.dst v) st' (fun fr' st' => Q fr' st' ∧ Kept (ssW (s :: r)) fr fr') R := by
      intro v st' h
      refine awpS_mono ?_ (fun _ _ h => h) (awpS_frame h)
      rintro fr' st'' ⟨h1, h2⟩
      exact ⟨h1, ((Kept.putO fr s.dst v).mono fun i hi => by simp [ssW, List.flatMap_cons]; simp at hi; exact .inl hi).trans (h2.mono fun i hi => by simp only [ssW, List.flatMap_cons, List.mem_append] at hi ⊢; exact .inr hi)⟩
    simp only [awpS] at h ⊢
    cases hg : s.guard with
    | none => rw [hg] at h; exact awpO_mono (fun v st' h => step v st' h) (fun _ _ h => h) h
    | some p =>
      obtain ⟨j, want⟩ := p
      rw [hg] at h
      simp only at h ⊢
      split at h
      · split at h
        · rename_i e; rw [if_pos e]; exact awpO_mono (fun v st' h => step v st' h) (fun _ _ h => h) h
        · rename_i e; rw [if_neg e]; exact step _ _ h
      · exact h.elim
theorem evalS_kept {s : AS} {fr fr1 : Fr} {st : St} (h : evalS s fr st = some fr1) : Kept s.dst.toList fr fr1 := by
  unfold evalS at h
  split at h
  · split at h
    · simp only [Option.bind_eq_some_iff, Option.some.injEq] at h
      obtain ⟨x, _, rfl⟩ := h; exact .putO _ _ _
    · split at h
      · split at h
        · simp only [Option.bind_eq_some_iff, Option.some.injEq] at h
          obtain ⟨x, _, rfl⟩ := h; exact .putO _ _ _
        · simp only [Option.some.injEq] at h; subst h; exact .putO _ _ _
      · cases h
  · cases h
theorem awpD_frame : ∀ {ds : List DI} {fr : Fr} {st : St} {Q : Fr → St → Prop} {R : V → St → Prop}, awpD P ds fr st Q R → awpD P ds fr st (fun fr' st' => Q fr' st' ∧ Kept (dsW ds) fr fr') R
  | [], fr, _, _, _, h => ⟨h, .refl _ fr⟩
  | d :: r, fr, st, Q, R, h => by
    have step : ∀ (fr1 : Fr) (W : List Nat) st', Kept W fr fr1 → (∀ i ∈ W, i ∈ dsW (d :: r)) → awpD P r fr1 st' Q R → awpD P r fr1 st' (fun fr' st' => Q fr' st' ∧ Kept (dsW (d :: r)) fr fr') R := by
      intro fr1 W st' hk hW h
      refine awpD_mono ?_ (fun _ _ h => h) (awpD_frame h)
      rintro fr' st'' ⟨h1, h2⟩
      exact ⟨h1, (hk.mono hW).trans (h2.mono fun i hi => by simp only [dsW, List.flatMap_cons, List.mem_append] at hi ⊢; exact .inr hi)⟩
    cases d with
    | fl i s =>
      simp only [awpD] at h ⊢
      split at h
      · rename_i fr1 he
        exact step fr1 _ st (evalS_kept he) (fun i hi => by simp only [dsW, List.flatMap_cons, List.mem_append]; exact .inl hi) h
      · exact h.elim
    | al i s =>
      simp only [awpD] at h ⊢
      split at h
      · exact step _ _ _ (.putO _ _ _) (fun i hi => by simp only [dsW, List.flatMap_cons, List.mem_append]; exact .inl hi) h
      · exact h.elim
    | an i s re =>
      have hm : ∀ i ∈ s.dst.toList, i ∈ dsW (DI.an i s re :: r) := fun i hi => by simp only [dsW, List.flatMap_cons, List.mem_append]; exact .inl hi
      simp only [awpD] at h ⊢
      split at h
      · exact awpO_mono (fun v st' h => ⟨h.1, step _ _ _ (.putO _ _ _) (fun i hi => by simp only [dsW, List.flatMap_cons, List.mem_append]; exact .inl hi) h.2⟩) (fun _ _ h => h) h
      · split at h
        · split at h
          · rename_i e; rw [if_pos e]; exact awpO_mono (fun v st' h => ⟨h.1, step _ _ _ (.putO _ _ _) (fun i hi => by simp only [dsW, List.flatMap_cons, List.mem_append]; exact .inl hi) h.2⟩) (fun _ _ h => h) h
          · rename_i e; rw [if_neg e]; exact ⟨h.1, step _ _ _ (.putO _ _ _) (fun i hi => by simp only [dsW, List.flatMap_cons, List.mem_append]; exact .inl hi) h.2⟩
        · exact h.elim
theorem awp_frame {c : AC} : ∀ {fr : Fr} {st : St} {Q : AE → Fr → St → Prop}, awp P c fr st Q → awp P c fr st fun e fr' st' => Q e fr' st' ∧ Kept (acW c) fr fr' := by
  induction c with
  | skip => intro fr st Q h; exact ⟨h, .refl _ fr⟩
  | exit id => intro fr st Q h; exact ⟨h, .refl _ fr⟩
  | ret => intro fr st Q h; exact ⟨h, .refl _ fr⟩
  | reg ss =>
    intro fr st Q h
    simp only [awp] at h ⊢
    exact awpS_mono (fun _ _ h => h) (fun _ _ h => ⟨h, .nil _ _⟩) (awpS_frame h)
  | dreg T AN AL ds =>
    intro fr st Q h
    simp only [awp] at h ⊢
    exact awpD_mono (fun _ _ h => h) (fun _ _ h => ⟨h, .nil _ _⟩) (awpD_frame h)
  | seq x y ihx ihy =>
    intro fr st Q h
    simp only [awp] at h ⊢
    refine awp_mono ?_ (ihx h)
    rintro e fr' st' ⟨h1, h2⟩
    have h2' : Kept (acW (.seq x y)) fr fr' := h2.mono fun i hi => List.mem_append_left _ hi
    cases e with
    | normal =>
      refine awp_mono ?_ (ihy h1)
      rintro e fr'' st'' ⟨k1, k2⟩
      exact ⟨k1, h2'.trans (k2.mono fun i hi => List.mem_append_right _ hi)⟩
    | _ => exact ⟨h1, h2'⟩
  | cond c x y ihx ihy =>
    intro fr st Q h
    simp only [awp] at h ⊢
    split at h
    · exact ⟨fun hb => awp_mono (fun e fr' st' h => ⟨h.1, h.2.mono fun i hi => List.mem_append_left _ hi⟩) (ihx (h.1 hb)), fun hb => awp_mono (fun e fr' st' h => ⟨h.1, h.2.mono fun i hi => List.mem_append_right _ hi⟩) (ihy (h.2 hb))⟩
    · exact h.elim
  | block id x ih =>
    intro fr st Q h
    simp only [awp] at h ⊢
    refine awp_mono ?_ (ih h)
    rintro e fr' st' ⟨h1, h2⟩
    cases e with
    | exit i =>
      simp only at h1 ⊢
      split at h1
      · rename_i hi; rw [if_pos hi]; exact ⟨h1, h2⟩
      · rename_i hi; rw [if_neg hi]; exact ⟨h1, h2⟩
    | _ => exact ⟨h1, h2⟩
  | loop live x ih =>
    intro fr st Q h
    simp only [awp] at h ⊢
    obtain ⟨I, ⟨n0, h0⟩, h1⟩ := h
    refine ⟨fun n fr1 st1 => I n fr1 st1 ∧ Kept (acW x) fr fr1, ⟨n0, h0, (Kept.only live fr).mono fun i hi => by simp at hi⟩, ?_⟩
    rintro n fr1 st1 ⟨hI, hk⟩
    refine awp_mono ?_ (ih (h1 n fr1 st1 hI))
    rintro e fr' st' ⟨h2, h3⟩
    cases e with
    | normal =>
      obtain ⟨m, hm, hI'⟩ := h2
      exact ⟨m, hm, hI', (hk.trans h3).trans ((Kept.only live fr').mono fun i hi => by simp at hi)⟩
    | _ => exact ⟨h2, hk.trans h3⟩
  | only live x ih =>
    intro fr st Q h
    simp only [awp] at h ⊢
    refine awp_mono ?_ (ih h)
    rintro e fr' st' ⟨h1, h2⟩
    exact ⟨h1, ((Kept.only live fr).mono fun i hi => by simp at hi).trans h2⟩
  | frz t agg x ih =>
    intro fr st Q h
    simp only [awp] at h ⊢
    split at h
    · rename_i fr' st' hd
      refine awp_mono ?_ (ih h)
      rintro e fr'' st'' ⟨h1, h2⟩
      refine ⟨h1, Kept.trans (b := fr') ?_ (h2.mono fun i hi => List.mem_cons_of_mem _ hi)⟩
      unfold doFrz at hd
      split at hd
      · simp only [Option.bind_eq_some_iff, Option.some.injEq, Prod.mk.injEq] at hd
        obtain ⟨cs, _, l, _, rfl, _⟩ := hd
        exact (Kept.putO fr (some t) _).mono fun i hi => by simp at hi; simp [acW, hi]
      · simp only [Option.bind_eq_some_iff, Option.some.injEq, Prod.mk.injEq] at hd
        obtain ⟨cs, _, rfl, _⟩ := hd
        exact (Kept.putO fr (some t) _).mono fun i hi => by simp at hi; simp [acW, hi]
      · cases hd
    · exact h.elim
theorem only_congr {live : List Nat} {a b : Fr} (h : ∀ i ∈ live, look a i = look b i) : only live a = only live b := by
  induction live with
  | nil => rfl
  | cons i r ih =>
    have := ih fun j hj => h j (List.mem_cons_of_mem _ hj)
    simp only [only, List.filterMap_cons, h i List.mem_cons_self] at this ⊢
    rw [this]
theorem look_putAll : ∀ {vary : List Nat} {vs : List V} {fr fr' : Fr}, looks fr' vary = some vs → ∀ i, look (putAll fr vary vs) i = if i ∈ vary then look fr' i else look fr i
  | [], vs, fr, fr', h, i => by simp [looks] at h; subst h; simp [putAll]
  | j :: r, vs, fr, fr', h, i => by
    simp only [looks] at h
    split at h
    · rename_i v us hv hus
      simp only [Option.some.injEq] at h
      subst h
      simp only [putAll, look_put]
      by_cases e : j = i
      · subst e; simp [hv]
      · rw [if_neg e, look_putAll hus]
        have e' : ¬ i = j := fun x => e x.symm
        simp [e']
    · cases h
theorem look_putAll_out : ∀ {vary : List Nat} {vs : List V} {fr : Fr} (i : Nat), i ∉ vary → look (putAll fr vary vs) i = look fr i
  | [], vs, fr, i, _ => by simp [putAll]
  | j :: r, [], fr, i, _ => by simp [putAll]
  | j :: r, v :: vs, fr, i, h => by
    simp only [putAll, look_put]
    rw [if_neg (fun e => h (by simp [e])), look_putAll_out i (fun x => h (List.mem_cons_of_mem _ x))]
theorem looks_ext {a b : Fr} (hE : Ext a b) : ∀ {l : List Nat} {vs : List V}, looks a l = some vs → looks b l = some vs
  | [], _, h => h
  | i :: r, vs, h => by
    simp only [looks] at h ⊢
    split at h
    · rename_i v us hv hus
      rw [hE i v hv, looks_ext hE hus]; exact h
    · cases h
theorem constOk_ext {live vary : List Nat} {fr a b : Fr} (hE : Ext a b) (h : constOk live vary fr a = true) : constOk live vary fr b = true := by
  unfold constOk at h ⊢
  rw [List.all_eq_true] at h ⊢
  intro i hi
  have := h i hi
  simp only [Bool.or_eq_true] at this ⊢
  rcases this with h1 | h1
  · exact .inl h1
  · right
    obtain ⟨v, hv⟩ := Option.isSome_iff_exists.1 h1
    rw [hE i v hv]; rfl
theorem joinQ_ext {live vary : List Nat} {shs : List Sh1} {K : sh1sFn shs (St → Prop)} {fr a b : Fr} {st : St} (hE : Ext a b) (h : joinQ live vary shs K fr a st) : joinQ live vary shs K fr b st := by
  unfold joinQ at h ⊢
  split at h
  · rename_i vs hvs
    rw [looks_ext hE hvs]
    cases hc : (sh1sChk shs vs && constOk live vary fr a) with
    | false => rw [hc] at h; exact h.elim
    | true =>
      rw [hc] at h
      simp only [Bool.and_eq_true] at hc
      simp only [hc.1, constOk_ext hE hc.2, Bool.and_self, cond_true]
      exact h
  · exact h.elim
theorem meet_only {W live vary : List Nat} (hw : within W live vary = true) {fr fr' : Fr} {vs vs' : List V} (hvs' : looks fr' vary = some vs') (hc : constOk live vary fr fr' = true)
    (hk : ∀ i, i ∉ W → ∀ v, look fr' i = some v → look (only live (putAll fr vary vs)) i = some v ∨ look fr i = some v) : only live fr' = only live (putAll fr vary vs') := by
  refine only_congr fun i hi => ?_
  rw [look_putAll hvs']
  by_cases hv : i ∈ vary
  · rw [if_pos hv]
  · rw [if_neg hv]
    have hnw : i ∉ W := by
      intro hiw
      have := List.all_eq_true.1 hw i hiw
      simp [hv, hi] at this
    have hkk : ∀ v, look fr' i = some v → look fr i = some v := by
      intro v hf
      rcases hk i hnw v hf with h3 | h3
      · have h3 := look_only _ _ _ _ h3
        rwa [look_putAll_out i hv] at h3
      · exact h3
    have hco := List.all_eq_true.1 hc i hi
    simp only [List.contains_eq_mem, hv, decide_false, Bool.false_or, Bool.or_eq_true, Bool.not_eq_true'] at hco
    cases hf : look fr' i with
    | none =>
      rw [hf] at hco
      rcases hco with h1 | h1
      · cases hl : look fr i with
        | none => rfl
        | some v => rw [hl] at h1; cases h1
      · cases h1
    | some v => exact (hkk v hf).symm
theorem joinQ_use {W live vary : List Nat} (hw : within W live vary = true) {shs : List Sh1} {F : List V → St → Prop} {fr fr' : Fr} {st : St} (h : joinQ live vary shs (sh1sLam shs F) fr fr' st) (hk : Kept W fr fr') :
    ∃ vs, only live fr' = only live (putAll fr vary vs) ∧ F vs st := by
  unfold joinQ at h
  split at h
  · rename_i vs hvs
    cases hc : (sh1sChk shs vs && constOk live vary fr fr') with
    | false => rw [hc] at h; exact h.elim
    | true =>
      rw [hc] at h
      simp only [Bool.and_eq_true] at hc
      simp only [cond_true] at h
      rw [sh1sApp_lam hc.1] at h
      exact ⟨vs, meet_only hw (vs := vs) hvs hc.2 (fun i hi v hv => .inr (hk i hi v hv)), h⟩
  · exact h.elim
theorem ext_only (live : List Nat) (fr : Fr) : Ext (only live fr) fr := fun i v h => look_only _ _ _ _ h
theorem awpS_append : ∀ {a b : List AS} {fr : Fr} {st : St} {Q : Fr → St → Prop} {R : V → St → Prop}, awpS P a fr st (fun fr st => awpS P b fr st Q R) R → awpS P (a ++ b) fr st Q R
  | [], _, _, _, _, _, h => h
  | s :: r, b, fr, st, Q, R, h => by
    simp only [List.cons_append, awpS] at h ⊢
    cases hg : s.guard with
    | none => rw [hg] at h; exact awpO_mono (fun v st h => awpS_append h) (fun _ _ h => h) h
    | some p =>
      obtain ⟨j, want⟩ := p
      rw [hg] at h
      simp only at h ⊢
      split at h
      · split at h
        · rename_i e; rw [if_pos e]; exact awpO_mono (fun v st h => awpS_append h) (fun _ _ h => h) h
        · rename_i e; rw [if_neg e]; exact awpS_append h
      · exact h.elim
theorem awpD_append : ∀ {a b : List DI} {fr : Fr} {st : St} {Q : Fr → St → Prop} {R : V → St → Prop}, awpD P a fr st (fun fr st => awpD P b fr st Q R) R → awpD P (a ++ b) fr st Q R
  | [], _, _, _, _, _, h => h
  | d :: r, b, fr, st, Q, R, h => by
    cases d with
    | fl i s =>
      simp only [List.cons_append, awpD] at h ⊢
      split at h
      · exact awpD_append h
      · exact h.elim
    | al i s =>
      simp only [List.cons_append, awpD] at h ⊢
      split at h
      · exact awpD_append h
      · exact h.elim
    | an i s re =>
      simp only [List.cons_append, awpD] at h ⊢
      cases hg : s.guard with
      | none => rw [hg] at h; exact awpO_mono (fun v st h => ⟨h.1, awpD_append h.2⟩) (fun _ _ h => h) h
      | some p =>
        obtain ⟨j, want⟩ := p
        rw [hg] at h
        simp only at h ⊢
        split at h
        · split at h
          · rename_i e; rw [if_pos e]; exact awpO_mono (fun v st h => ⟨h.1, awpD_append h.2⟩) (fun _ _ h => h) h
          · rename_i e; rw [if_neg e]; exact ⟨h.1, awpD_append h.2⟩
        · exact h.elim
theorem rSX_sound : ∀ {ss : List RSX} {fr : Fr} {st : St} {Q Q' : Fr → St → Prop} {R : V → St → Prop}, (∀ f st, Q f st → Q' f st) → (∀ f g st, Ext f g → Q' f st → Q' g st) → rSX P ss fr st Q R → awpS P (rsEr ss) fr st Q' R
  | [], fr, st, Q, Q', R, hQ, _, h => hQ _ _ h
  | .one s :: r, fr, st, Q, Q', R, hQ, hE, h => by
    simp only [rSX] at h
    simp only [rsEr, RSX.er]
    exact awpS_append (awpS_mono (fun f st h => rSX_sound hQ hE h) (fun _ _ h => h) (rS_sound h))
  | .grp ss live vary shs :: r, fr, st, Q, Q', R, hQ, hE, h => by
    simp only [rSX] at h
    simp only [rsEr, RSX.er]
    cases hw : within (ssW (ss.map (·.s))) live vary with
    | false => rw [hw] at h; exact h.elim
    | true =>
      rw [hw] at h
      simp only [cond_true] at h
      have h := h (sh1sLam shs fun vs st' => rSX P r (only live (putAll fr vary vs)) st' Q R) (sh1sAll_intro fun vs hvs st' hr => by rw [sh1sApp_lam hvs]; exact hr)
      refine awpS_append (awpS_mono ?_ (fun _ _ h => h) (awpS_frame (rS_sound h)))
      rintro f st' ⟨h1, h2⟩
      obtain ⟨vs, h3, h4⟩ := joinQ_use hw h1 h2
      have := rSX_sound hQ hE h4
      rw [← h3] at this
      exact awpS_ext (ext_only live f) hE this
theorem rDX_sound : ∀ {ss : List RDX} {fr : Fr} {st : St} {Q Q' : Fr → St → Prop} {R : V → St → Prop}, (∀ f st, Q f st → Q' f st) → (∀ f g st, Ext f g → Q' f st → Q' g st) → rDX P ss fr st Q R → awpD P (rdEr ss) fr st Q' R
  | [], fr, st, Q, Q', R, hQ, _, h => hQ _ _ h
  | .one s :: r, fr, st, Q, Q', R, hQ, hE, h => by
    simp only [rDX] at h
    simp only [rdEr, RDX.er]
    exact awpD_append (awpD_mono (fun f st h => rDX_sound hQ hE h) (fun _ _ h => h) (rD_sound h))
  | .grp ss live vary shs :: r, fr, st, Q, Q', R, hQ, hE, h => by
    simp only [rDX] at h
    simp only [rdEr, RDX.er]
    cases hw : within (dsW (ss.map RD.er)) live vary with
    | false => rw [hw] at h; exact h.elim
    | true =>
      rw [hw] at h
      simp only [cond_true] at h
      have h := h (sh1sLam shs fun vs st' => rDX P r (only live (putAll fr vary vs)) st' Q R) (sh1sAll_intro fun vs hvs st' hr => by rw [sh1sApp_lam hvs]; exact hr)
      refine awpD_append (awpD_mono ?_ (fun _ _ h => h) (awpD_frame (rD_sound h)))
      rintro f st' ⟨h1, h2⟩
      obtain ⟨vs, h3, h4⟩ := joinQ_use hw h1 h2
      have := rDX_sound hQ hE h4
      rw [← h3] at this
      exact awpD_ext (ext_only live f) hE this
def ExtQ (Q : AE → Fr → St → Prop) : Prop := ∀ e f g st, Ext f g → Q e f st → Q e g st
theorem rwp_sound {ar : AR} : ∀ {fr : Fr} {st : St} {Q Q' : AE → Fr → St → Prop}, (∀ e f st, Q e f st → Q' e f st) → ExtQ Q' → rwp P ar fr st Q → awp P ar.er fr st Q' := by
  induction ar with
  | skip => intro fr st Q Q' hQ hE h; exact hQ _ _ _ h
  | exit id => intro fr st Q Q' hQ hE h; exact hQ _ _ _ h
  | ret => intro fr st Q Q' hQ hE h; exact hQ _ _ _ h
  | reg ss =>
    intro fr st Q Q' hQ hE h
    exact awpS_mono (fun _ _ h => h) (fun _ _ h => hQ _ _ _ h) (rSX_sound (Q' := fun f st => Q' .normal f st) (fun f st h => hQ _ _ _ h) (fun f g st he h => hE _ _ _ _ he h) h)
  | dreg T AN AL ds =>
    intro fr st Q Q' hQ hE h
    exact awpD_mono (fun _ _ h => h) (fun _ _ h => hQ _ _ _ h) (rDX_sound (Q' := fun f st => Q' .normal f st) (fun f st h => hQ _ _ _ h) (fun f g st he h => hE _ _ _ _ he h) h)
  | seq x y ihx ihy =>
    intro fr st Q Q' hQ hE h
    simp only [rwp] at h
    simp only [AR.er, awp]
    refine ihx (fun e f st h => ?_) (fun e f g st he h => ?_) h
    · cases e with
      | normal => exact ihy hQ hE h
      | _ => exact hQ _ _ _ h
    · cases e with
      | normal => exact awp_ext he hE h
      | _ => exact hE _ _ _ _ he h
  | seqK live vary shs x y ihx ihy =>
    intro fr st Q Q' hQ hE h
    simp only [rwp] at h
    simp only [AR.er, awp]
    cases hw : within (acW x.er) live vary with
    | false => rw [hw] at h; exact h.elim
    | true =>
      rw [hw] at h
      simp only [cond_true] at h
      have h := h (sh1sLam shs fun vs st' => rwp P y (only live (putAll fr vary vs)) st' Q) (sh1sAll_intro fun vs hvs st' hr => by rw [sh1sApp_lam hvs]; exact hr)
      have h2 := ihx (Q' := fun e f st => match e with | .normal => joinQ live vary shs (sh1sLam shs fun vs st' => rwp P y (only live (putAll fr vary vs)) st' Q) fr f st | e => Q' e f st)
        (fun e f st h => by cases e with | normal => exact h | _ => exact hQ _ _ _ h)
        (fun e f g st he h => by cases e with | normal => exact joinQ_ext he h | _ => exact hE _ _ _ _ he h) h
      refine awp_mono ?_ (awp_frame h2)
      rintro e f st' ⟨h3, h4⟩
      cases e with
      | normal =>
        obtain ⟨vs, h5, h6⟩ := joinQ_use hw h3 h4
        simp only
        rw [h5]
        exact ihy hQ hE h6
      | _ => exact h3
  | cond c lit x y ihx ihy =>
    intro fr st Q Q' hQ hE h
    simp only [rwp] at h
    simp only [AR.er, awp]
    split at h
    · rename_i j
      obtain ⟨b, hb, h⟩ := rC_some h
      simp only [evalO, hb]
      cases b
      · rw [if_neg (by decide)] at h; exact ⟨fun e => (by cases e), fun _ => ihy hQ hE h⟩
      · rw [if_pos rfl] at h; exact ⟨fun _ => ihx hQ hE h, fun e => (by cases e)⟩
    · split at h
      · rename_i b hb
        simp only [hb]
        cases b
        · rw [if_neg (by decide)] at h; exact ⟨fun e => (by cases e), fun _ => ihy hQ hE h⟩
        · rw [if_pos rfl] at h; exact ⟨fun _ => ihx hQ hE h, fun e => (by cases e)⟩
      · exact h.elim
  | block id x ih =>
    intro fr st Q Q' hQ hE h
    refine ih (fun e f st h => ?_) (fun e f g st he h => ?_) h
    · cases e with
      | exit i =>
        simp only at h ⊢
        split at h
        · rename_i e; rw [if_pos e]; exact hQ _ _ _ h
        · rename_i e; rw [if_neg e]; exact hQ _ _ _ h
      | _ => exact hQ _ _ _ h
    · cases e with
      | exit i =>
        simp only at h ⊢
        split at h
        · rename_i e; rw [if_pos e]; exact hE _ _ _ _ he h
        · rename_i e; rw [if_neg e]; exact hE _ _ _ _ he h
      | _ => exact hE _ _ _ _ he h
  | only live x ih => intro fr st Q Q' hQ hE h; exact ih hQ hE h
  | frz t agg x ih =>
    intro fr st Q Q' hQ hE h
    simp only [rwp] at h
    simp only [AR.er, awp, doFrz]
    split at h
    · rename_i sz id off len cap hl
      obtain ⟨cs, l, h1, h2, h3⟩ := h
      simp only [hl, h1, Option.bind_some, h2]
      exact ih hQ hE (h3 _ rfl)
    · rename_i id hl
      obtain ⟨cs, h1, h2⟩ := h
      simp only [hl, h1, Option.bind_some]
      exact ih hQ hE (h2 _ rfl)
    · exact h.elim
  | loop live vary shs x ih =>
    intro fr st Q Q' hQ hE h
    simp only [rwp] at h
    simp only [AR.er, awp]
    cases hw : within (acW x.er) live vary with
    | false => rw [hw] at h; exact h.elim
    | true =>
      rw [hw] at h
      simp only [cond_true] at h
      obtain ⟨J, h0, h1⟩ := h
      refine ⟨fun n fr1 st1 => ∃ vs, fr1 = only live (putAll fr vary vs) ∧ sh1sChk shs vs = true ∧ sh1sApp shs (fun _ => False) (J n) vs st1, ?_, ?_⟩
      · split at h0
        · rename_i vs hvs
          cases hc : sh1sChk shs vs with
          | false => rw [hc] at h0; exact h0.elim
          | true =>
            rw [hc] at h0
            obtain ⟨n, hn⟩ := h0
            refine ⟨n, vs, only_congr fun i _ => ?_, hc, hn⟩
            rw [look_putAll hvs]; simp
        · exact h0.elim
      · rintro n fr1 st1 ⟨vs, rfl, hc, hI⟩
        have := sh1sAll_get (h1 n) hc st1 hI
        have h2 := ih (Q' := fun e fr' st' => match e with
          | .normal => (match looks fr' vary with
            | some vs' => bif sh1sChk shs vs' && constOk live vary fr fr' then ∃ m, m < n ∧ sh1sApp shs (fun _ => False) (J m) vs' st' else False
            | none => False)
          | e => Q' e fr' st') (fun e f st h => by cases e with | normal => exact h | _ => exact hQ _ _ _ h)
          (fun e f g st he h => by
            cases e with
            | normal =>
              simp only at h ⊢
              split at h
              · rename_i vs' hvs'
                rw [looks_ext he hvs']
                cases hc' : (sh1sChk shs vs' && constOk live vary fr f) with
                | false => rw [hc'] at h; exact h.elim
                | true =>
                  rw [hc'] at h
                  simp only [Bool.and_eq_true] at hc'
                  simp only [hc'.1, constOk_ext he hc'.2, Bool.and_self, cond_true]
                  exact h
              · exact h.elim
            | _ => exact hE _ _ _ _ he h) this
        refine awp_mono ?_ (awp_frame h2)
        rintro e fr' st' ⟨h3, hk⟩
        cases e with
        | normal =>
          simp only at h3 ⊢
          split at h3
          · rename_i vs' hvs'
            cases hc' : (sh1sChk shs vs' && constOk live vary fr fr') with
            | false => rw [hc'] at h3; exact h3.elim
            | true =>
              rw [hc'] at h3
              obtain ⟨m, hm, hI'⟩ := h3
              simp only [Bool.and_eq_true] at hc'
              exact ⟨m, hm, vs', meet_only hw (vs := vs) hvs' hc'.2 (fun i hi v hv => .inl (hk i hi v hv)), hc'.1, hI'⟩
          · exact h3.elim
        | _ => exact h3
def resN (fr : Fr) (st : St) : List (RV × Sh1) → (List V → Prop) → Prop
  | [], K => K []
  | (.tmp t, _) :: r, K => match look fr t with
    | some v => resN fr st r fun vs => K (v :: vs)
    | none => False
  | (.cell t n agg, sh) :: r, K => match look fr t with
    | some (.ptr id off) => sh.ex fun v => st.ldv id off n agg = some v ∧ resN fr st r fun vs => K (v :: vs)
    | _ => False
def FinR (rs : List (RV × Sh1)) (Q : Res → St → Prop) : AE → Fr → St → Prop := fun e fr st => match e with
  | .normal => resN fr st rs fun vs => match vs with | [v] => Q (.ret v) st | vs => Q (.ret (.tup vs)) st
  | .ret => resN fr st rs fun vs => match vs with | [v] => Q (.ret v) st | vs => Q (.ret (.tup vs)) st
  | .pan v => Q (.pan v) st
  | .exit _ => False
theorem resN_some {fr : Fr} {st : St} : ∀ {rs : List (RV × Sh1)} {K : List V → Prop}, resN fr st rs K → ∃ vs, lookAll fr st (rs.map (·.1)) = some vs ∧ vs.length = rs.length ∧ K vs
  | [], K, h => ⟨[], rfl, rfl, h⟩
  | (.tmp t, _) :: r, K, h => by
    simp only [resN] at h
    split at h
    · rename_i v hv
      obtain ⟨vs, h1, h2, h3⟩ := resN_some h
      exact ⟨v :: vs, by simp [lookAll, lookR, hv, h1], by simp [h2], h3⟩
    · exact h.elim
  | (.cell t n agg, sh) :: r, K, h => by
    simp only [resN] at h
    split at h
    · rename_i id off hl
      obtain ⟨v, hv, h⟩ := Sh1.ex_some h
      obtain ⟨vs, h1, h2, h3⟩ := resN_some h
      refine ⟨v :: vs, ?_, by simp [h2], h3⟩
      simp only [St.ldv] at hv
      simp only [List.map_cons, lookAll, lookR, hl, Option.bind_some, hv, h1]
    · exact h.elim
theorem FinR_sound {rs : List (RV × Sh1)} {Q : Res → St → Prop} {e : AE} {fr : Fr} {st : St} (h : FinR rs Q e fr st) : FinQ (rs.map (·.1)) Q e fr st := by
  have go : (resN fr st rs fun vs => match vs with | [v] => Q (.ret v) st | vs => Q (.ret (.tup vs)) st) → ∃ v, resV fr st (rs.map (·.1)) = some v ∧ Q (.ret v) st := by
    intro h
    obtain ⟨vs, h1, h2, h3⟩ := resN_some h
    match rs, vs, h1, h2, h3 with
    | [], [], _, _, h3 => exact ⟨_, rfl, h3⟩
    | [r], [v], h1, _, h3 =>
      refine ⟨v, ?_, h3⟩
      simp only [List.map_cons, List.map_nil, lookAll, Option.bind_eq_some_iff, Option.some.injEq] at h1
      obtain ⟨u, hu, ws, rfl, hw⟩ := h1
      simp only [List.cons.injEq, and_true] at hw
      subst hw
      simpa [resV] using hu
    | a :: b :: r, u :: w :: vs, h1, _, h3 =>
      refine ⟨.tup (u :: w :: vs), ?_, h3⟩
      simp only [List.map_cons] at h1 ⊢
      simp only [resV, h1, Option.bind_some]
  cases e with
  | normal => exact go h
  | ret => exact go h
  | pan v => exact h
  | exit id => exact h
theorem lookR_ext {a b : Fr} (hE : Ext a b) {st : St} {r : RV} {v : V} (h : lookR a st r = some v) : lookR b st r = some v := by
  cases r with
  | tmp t => exact hE t v h
  | cell t n agg => simp only [lookR] at h ⊢; exact bind2 h (fun v hv => hE t v hv) fun _ h => h
theorem lookAll_ext {a b : Fr} (hE : Ext a b) {st : St} : ∀ {l : List RV} {vs : List V}, lookAll a st l = some vs → lookAll b st l = some vs
  | [], _, h => h
  | x :: r, vs, h => by
    simp only [lookAll] at h ⊢
    exact bind2 h (fun v hv => lookR_ext hE hv) fun v h => bind2 h (fun v hv => lookAll_ext hE hv) fun _ h => h
theorem resV_ext {a b : Fr} (hE : Ext a b) {st : St} {l : List RV} {v : V} (h : resV a st l = some v) : resV b st l = some v := by
  unfold resV at h ⊢
  split at h
  · exact lookR_ext hE h
  · exact bind2 h (fun v hv => lookAll_ext hE hv) fun _ h => h
theorem FinQ_ext {rs : List RV} {Q : Res → St → Prop} : ExtQ (FinQ rs Q) := by
  intro e f g st he h
  cases e with
  | normal => obtain ⟨v, h1, h2⟩ := h; exact ⟨v, resV_ext he h1, h2⟩
  | ret => obtain ⟨v, h1, h2⟩ := h; exact ⟨v, resV_ext he h1, h2⟩
  | pan v => exact h
  | exit id => exact h
theorem rcallR {f : FuncId} {fn : Func} {ar : AR} {rs : List (RV × Sh1)} {args : List V} {st : St} {Q : Res → St → Prop} {n : Nat}
    (hf : P.funcs[f]? = some fn) (hc : chkF P fn ar.er (rs.map (·.1)) n = true) (hn : args.length = n)
    (h : rwp P ar (initFr args 0) st (FinR rs Q)) : RCall P f args st Q :=
  rcall_of hf hc hn (rwp_sound (fun _ _ _ h => FinR_sound h) FinQ_ext h)
theorem rcallE {f : FuncId} {fn : Func} {ar : AR} {rs : List (RV × Sh1)} {args : List V} {st : St} {Q : Res → St → Prop} {n : Nat} {X : Prop}
    (hf : P.funcs[f]? = some fn) (hc : chkF P fn ar.er (rs.map (·.1)) n = true) (hn : args.length = n)
    (he : rwp P ar (initFr args 0) st (FinR rs Q) = X) (h : X) : RCall P f args st Q := rcallR hf hc hn (he.mpr h)
end
end Go.Sim
