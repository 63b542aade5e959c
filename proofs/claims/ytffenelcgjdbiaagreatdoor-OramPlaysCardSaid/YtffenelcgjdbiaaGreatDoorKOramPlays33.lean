/- Merged by a program of mine (pack.py) out of my own texts; what is not used is left out. -/
import Derived.Test.YtffenelcgjdbiaaGreatDoorKOramPlays32
set_option linter.unusedVariables false
set_option linter.unusedSimpArgs false
namespace Go.Sim
open Go
def chkC (P : Program) (N : Nat) : Code → AC → Bool
  | c, .only _ x => chkC P N c x
  | c, .frz _ _ x => chkC P N c x
  | .skip, .skip => true
  | .region _ ops false, .reg ss => chkSs P N ops.toList ops.toList ss
  | .region _ ops true, .dreg T AN AL ds => chkD P N ops T AN AL ds
  | .seq x y, .seq x' y' => chkC P N x x' && chkC P N y y'
  | .cond c x y, .cond c' x' y' => chkO c c' && chkC P N x x' && chkC P N y y'
  | .block id x, .block id' x' => id == id' && chkC P N x x'
  | .loop x, .loop _ x' => chkC P N x x'
  | .exit id, .exit id' => id == id'
  | .ret, .ret => true
  | _, _ => false
termination_by structural _ x => x
section
variable {P : Program} {bn : Nat} {N : Nat}
theorem awp_sound : ∀ {ac : AC} {c : Code}, chkC P N c ac = true → ∀ {fr : Fr} {st : St} {Q : AE → Fr → St → Prop} {g : G} {a : Act} {w : World},
    awp P ac fr st Q → FRel g N fr a.tmps → WRel (mkEnv P bn) g st w → c.wp P (Post (mkEnv P bn) N g w a.defers Q) a w := by
  intro ac
  induction ac with
  | skip =>
    intro c hc fr st Q g a w h hF hW
    cases c <;> simp [chkC] at hc
    exact wp_skip ⟨g, fr, st, .normal, trivial, hF, hW, .refl g w, rfl, h⟩
  | reg ss =>
    intro c hc fr st Q g a w h hF hW
    cases c with
    | region id ops d =>
      cases d <;> simp only [chkC] at hc
      · refine wp_region_list ?_
        simp only [awp] at h
        exact awpS_sound hc h hF hW (fun g' fr' st' a' w' hq hF' hW' hS hD => ⟨g', fr', st', .normal, trivial, hF', hW', hS, hD, hq⟩)
          (fun g' fr' st' v c a' w' hr hv hF' hW' hS hD => ⟨g', [], st', .pan v, ⟨c, rfl, hv⟩, ⟨hF'.size, fun i v h => by simp [look] at h⟩, hW', hS, hD, hr⟩)
      · cases hc
    | _ => simp [chkC] at hc
  | dreg T AN AL ds =>
    intro c hc fr st Q g a w h hF hW
    cases c with
    | region id ops d =>
      cases d <;> simp only [chkC] at hc
      · cases hc
      · simp only [awp] at h
        exact dreg_sound hc h hF hW (fun g' fr' st' a' w' hq hF' hW' hS hD => ⟨g', fr', st', .normal, trivial, hF', hW', hS, hD, hq⟩)
          (fun g' st' v c a' w' hr hv hF' hW' hS hD => ⟨g', [], st', .pan v, ⟨c, rfl, hv⟩, ⟨hF', fun i v h => by simp [look] at h⟩, hW', hS, hD, hr⟩)
    | _ => simp [chkC] at hc
  | seq x y ihx ihy =>
    intro c hc fr st Q g a w h hF hW
    cases c <;> simp only [chkC, Bool.and_eq_true, Bool.false_eq_true] at hc
    rename_i c1 c2
    refine wp_seq ?_
    simp only [awp] at h
    refine wp_mono (ihx hc.1 h hF hW) ?_
    rintro e a1 w1 ⟨g1, fr1, st1, e1, hx, hF1, hW1, hS1, hD1, hq⟩
    cases e1 with
    | normal =>
      cases e <;> simp only [XRel] at hx
      simp only [Exit.then]
      simp only at hq
      refine wp_mono (ihy hc.2 hq hF1 hW1) ?_
      intro e2 a2 w2 hp
      have := Post.lift hS1 hp
      rw [hD1] at this
      exact this
    | exit i => cases e <;> simp only [XRel] at hx; subst hx; exact ⟨g1, fr1, st1, .exit i, rfl, hF1, hW1, hS1, hD1, hq⟩
    | ret => cases e <;> simp only [XRel] at hx; exact ⟨g1, fr1, st1, .ret, trivial, hF1, hW1, hS1, hD1, hq⟩
    | pan v => cases e <;> simp only [XRel] at hx; exact ⟨g1, fr1, st1, .pan v, hx, hF1, hW1, hS1, hD1, hq⟩
  | cond c0 x y ihx ihy =>
    intro c hc fr st Q g a w h hF hW
    cases c <;> simp only [chkC, Bool.and_eq_true, Bool.false_eq_true] at hc
    rename_i o c1 c2
    simp only [awp] at h
    cases hv : evalO fr c0 with
    | none => simp [hv] at h
    | some v =>
      have hr := chkO_sound hc.1.1 hF hv
      generalize hoe : a.eval o = co at hr
      cases hr with
      | bool b =>
        simp only [hv] at h
        refine wp_cond hoe ?_
        cases b
        · exact ihy hc.2 (h.2 rfl) hF hW
        · exact ihx hc.1.2 (h.1 rfl) hF hW
      | _ => simp [hv] at h
  | block id x ih =>
    intro c hc fr st Q g a w h hF hW
    cases c <;> simp only [chkC, Bool.and_eq_true, Bool.false_eq_true, beq_iff_eq] at hc
    rename_i id' c1
    obtain ⟨rfl, hc⟩ := hc
    refine wp_block ?_
    simp only [awp] at h
    refine wp_mono (ih hc h hF hW) ?_
    rintro e a1 w1 ⟨g1, fr1, st1, e1, hx, hF1, hW1, hS1, hD1, hq⟩
    cases e1 with
    | normal => cases e <;> simp only [XRel] at hx; exact ⟨g1, fr1, st1, .normal, trivial, hF1, hW1, hS1, hD1, hq⟩
    | exit i =>
      cases e <;> simp only [XRel] at hx
      subst hx
      simp only [Exit.inBlock]
      simp only at hq
      by_cases hi : i = id'
      · rw [if_pos hi] at hq ⊢
        exact ⟨g1, fr1, st1, .normal, trivial, hF1, hW1, hS1, hD1, hq⟩
      · rw [if_neg hi] at hq ⊢
        exact ⟨g1, fr1, st1, .exit i, rfl, hF1, hW1, hS1, hD1, hq⟩
    | ret => cases e <;> simp only [XRel] at hx; exact ⟨g1, fr1, st1, .ret, trivial, hF1, hW1, hS1, hD1, hq⟩
    | pan v => cases e <;> simp only [XRel] at hx; exact ⟨g1, fr1, st1, .pan v, hx, hF1, hW1, hS1, hD1, hq⟩
  | loop live x ih =>
    intro c hc fr st Q g a w h hF hW
    cases c <;> simp only [chkC, Bool.false_eq_true] at hc
    rename_i c1
    simp only [awp] at h
    obtain ⟨I, ⟨n0, h0⟩, hround⟩ := h
    have key : ∀ (n : Nat) (fr1 : Fr) (st1 : St) (g1 : G) (a1 : Act) (w1 : World), I n fr1 st1 → FRel g1 N fr1 a1.tmps → WRel (mkEnv P bn) g1 st1 w1 → a1.defers = a.defers → Step g w g1 w1 →
        ∀ (b : Frame) (k : List Item) (cs : List Frame), ∃ e a' w', Post (mkEnv P bn) N g w a.defers Q e a' w' ∧ Arrives P (lone (b.at a1 (.code c1 :: .inLoop c1 :: k)) cs w1) b k cs e a' w' := by
      intro n
      induction n using Nat.strongRecOn with
      | _ n ihn =>
        intro fr1 st1 g1 a1 w1 hI hF1 hW1 hD1 hS1 b k cs
        obtain ⟨e, a2, w2, ⟨g2, fr2, st2, e2, hx, hF2, hW2, hS2, hD2, hq⟩, harr⟩ := ih hc (hround n fr1 st1 hI) hF1 hW1 b (.inLoop c1 :: k) cs
        rw [hD1] at hD2
        cases e2 with
        | normal =>
          cases e <;> simp only [XRel] at hx
          simp only at hq
          obtain ⟨m, hlt, hI2⟩ := hq
          obtain ⟨e3, a3, w3, hp3, harr3⟩ := ihn m hlt (only live fr2) st2 g2 a2 w2 hI2 (hF2.only live) hW2 hD2 (hS1.trans hS2) b k cs
          exact ⟨e3, a3, w3, hp3, .of_steps (Steps.trans harr (.one step_inLoop)) harr3⟩
        | exit i =>
          cases e <;> simp only [XRel] at hx
          subst hx
          exact ⟨.exit i, a2, w2, ⟨g2, fr2, st2, .exit i, rfl, hF2, hW2, hS1.trans hS2, hD2, hq⟩, .pass (x := .inLoop c1) rfl (fun _ _ => .inl (by simp)) harr⟩
        | ret =>
          cases e <;> simp only [XRel] at hx
          exact ⟨.ret, a2, w2, ⟨g2, fr2, st2, .ret, trivial, hF2, hW2, hS1.trans hS2, hD2, hq⟩, .pass (x := .inLoop c1) rfl (fun _ _ => .inl (by simp)) harr⟩
        | pan v =>
          cases e <;> simp only [XRel] at hx
          exact ⟨.panic _, a2, w2, ⟨g2, fr2, st2, .pan v, hx, hF2, hW2, hS1.trans hS2, hD2, hq⟩, .pass (x := .inLoop c1) rfl (fun _ _ => .inl (by simp)) harr⟩
    intro b k cs
    obtain ⟨e, a', w', hp, harr⟩ := key n0 (only live fr) st g a w h0 (hF.only live) hW rfl (.refl g w) b k cs
    exact ⟨e, a', w', hp, .of_steps (.one step_loop) harr⟩
  | exit id =>
    intro c hc fr st Q g a w h hF hW
    cases c <;> simp [chkC] at hc
    subst hc
    exact wp_exit ⟨g, fr, st, .exit _, rfl, hF, hW, .refl g w, rfl, h⟩
  | ret =>
    intro c hc fr st Q g a w h hF hW
    cases c <;> simp [chkC] at hc
    exact wp_ret ⟨g, fr, st, .ret, trivial, hF, hW, .refl g w, rfl, h⟩
  | only live x ih =>
    intro c hc fr st Q g a w h hF hW
    simp only [awp] at h
    have hc' : chkC P N c x = true := by cases c <;> simpa [chkC] using hc
    exact ih hc' h (hF.only live) hW
  | frz t agg x ih =>
    intro c hc fr st Q g a w h hF hW
    simp only [awp] at h
    have hc' : chkC P N c x = true := by cases c <;> simpa [chkC] using hc
    split at h
    · rename_i fr' st' hd
      unfold doFrz at hd
      split at hd
      · rename_i sz id off len cap hl
        simp only [Option.bind_eq_some_iff, Option.some.injEq, Prod.mk.injEq] at hd
        obtain ⟨cs, hcs, l, hfl, rfl, rfl⟩ := hd
        obtain ⟨cv, hcv, hr⟩ := hF.slot t _ hl
        cases hr with
        | ref ho hcap =>
          obtain ⟨g', hW', hS, hv, _⟩ := hW.frz hcs ho hfl
          have hF' : FRel g' N (put fr t (.lst sz l (.tail st.next))) a.tmps := by
            refine ⟨hF.size, fun i v hi => ?_⟩
            rw [look_put] at hi
            by_cases e : t = i
            · subst e
              simp only [if_true, Option.some.injEq] at hi
              subst hi
              exact ⟨_, hcv, hv⟩
            · rw [if_neg e] at hi
              obtain ⟨c', h1, h2⟩ := hF.slot i v hi
              exact ⟨c', h1, h2.mono hS.le⟩
          refine wp_mono (ih hc' h hF' hW') ?_
          intro e2 a2 w2 hp
          exact Post.lift hS hp
      · rename_i id hl
        simp only [Option.bind_eq_some_iff, Option.some.injEq, Prod.mk.injEq] at hd
        obtain ⟨cs, hcs, rfl, rfl⟩ := hd
        obtain ⟨cv, hcv, hr⟩ := hF.slot t _ hl
        cases hr with
        | ptr ho =>
          obtain ⟨g', hW', hS, hv⟩ := hW.frzp hcs ho
          have hF' : FRel g' N (put fr t (.ep cs)) a.tmps := by
            refine ⟨hF.size, fun i v hi => ?_⟩
            rw [look_put] at hi
            by_cases e : t = i
            · subst e
              simp only [if_true, Option.some.injEq] at hi
              subst hi
              exact ⟨_, hcv, hv⟩
            · rw [if_neg e] at hi
              obtain ⟨c', h1, h2⟩ := hF.slot i v hi
              exact ⟨c', h1, h2.mono hS.le⟩
          refine wp_mono (ih hc' h hF' hW') ?_
          intro e2 a2 w2 hp
          exact Post.lift hS hp
      · cases hd
    · exact h.elim
def initFr : List V → Nat → Fr
  | [], _ => []
  | v :: r, i => (i, v) :: initFr r (i + 1)
theorem look_init (l : List V) (k i : Nat) : look (initFr l k) i = if k ≤ i then l[i - k]? else none := by
  induction l generalizing k with
  | nil => simp [initFr, look]
  | cons v l ih =>
    simp only [initFr, look]
    by_cases h : k = i
    · subst h; simp
    · rw [if_neg h, ih]
      by_cases h2 : k + 1 ≤ i
      · rw [if_pos h2, if_pos (by omega)]
        rw [show i - k = (i - (k + 1)) + 1 by omega, List.getElem?_cons_succ]
      · rw [if_neg h2, if_neg (by omega)]
inductive RV where
  | tmp (t : Nat)
  | cell (t n : Nat) (agg : Bool)
def lookR (fr : Fr) (st : St) : RV → Option V
  | .tmp t => look fr t
  | .cell t n agg => (look fr t).bind fun v => match v with
    | .ptr id off => (st.cells id).bind fun cs => if off + n ≤ cs.length then aggOr agg ((cs.drop off).take n) else none
    | _ => none
def lookAll (fr : Fr) (st : St) : List RV → Option (List V)
  | [] => some []
  | t :: r => (lookR fr st t).bind fun v => (lookAll fr st r).bind fun vs => some (v :: vs)
def resV (fr : Fr) (st : St) (rs : List RV) : Option V :=
  match rs with
  | [t] => lookR fr st t
  | rs => (lookAll fr st rs).bind fun vs => some (.tup vs)
def chkR (P : Program) : List ResultVar → List RV → Bool
  | [], [] => true
  | .tmp t :: r, .tmp u :: s => t == u && chkR P r s
  | .cell a t :: r, .cell b n agg :: s => a == b && szIs P t n && aggIs P t agg && chkR P r s
  | _, _ => false
theorem res_run {bn : Nat} {g : G} {fr : Fr} {st : St} {tmps : Array Value} {w : World} (hF : FRel g N fr tmps) (hW : WRel (mkEnv P bn) g st w) (f : ResultVar → Sem Value) (hf1 : ∀ t, f (.tmp t) = pure (tmps.getD t undef)) (hf2 : ∀ a t, f (.cell a t) = (do loadVar t (← asAddr (tmps.getD a undef)))) :
    ∀ {l : List ResultVar} {rs : List RV} {vs : List V}, chkR P l rs = true → lookAll fr st rs = some vs → ∃ cs, (l.mapM f).run P w = .ok cs w ∧ LR (VRel g) vs cs := by
  intro l
  induction l with
  | nil =>
    intro rs vs hc h
    cases rs with
    | nil => simp [lookAll] at h; subst h; exact ⟨[], by simp, LR.nil⟩
    | cons => simp [chkR] at hc
  | cons x l ih =>
    intro rs vs hc h
    cases rs with
    | nil => cases x <;> simp [chkR] at hc
    | cons y rs =>
      simp only [lookAll, Option.bind_eq_some_iff, Option.some.injEq] at h
      obtain ⟨v, hv, ws, hws, rfl⟩ := h
      have one : ∃ c, (f x).run P w = .ok c w ∧ VRel g v c := by
        cases x with
        | tmp t =>
          cases y with
          | tmp u =>
            simp only [chkR, Bool.and_eq_true, beq_iff_eq] at hc
            obtain ⟨rfl, _⟩ := hc
            obtain ⟨c, hcc, hr⟩ := hF.slot t v hv
            exact ⟨c, by rw [hf1]; simp [Array.getD_eq_getD_getElem?, hcc], hr⟩
          | cell => simp [chkR] at hc
        | cell a t =>
          cases y with
          | tmp u => simp [chkR] at hc
          | cell b n agg =>
            simp only [chkR, Bool.and_eq_true, beq_iff_eq] at hc
            obtain ⟨⟨⟨rfl, hsz⟩, hagg⟩, _⟩ := hc
            simp only [lookR, Option.bind_eq_some_iff] at hv
            obtain ⟨u, hu, hv⟩ := hv
            obtain ⟨c, hcc, hr⟩ := hF.slot a u hu
            cases hr with
            | ptr hg =>
              rename_i id off b'
              simp only [Option.bind_eq_some_iff] at hv
              obtain ⟨cs, hcs, hv⟩ := hv
              by_cases hle : off + n ≤ cs.length
              · rw [if_pos hle] at hv
                obtain ⟨b2, cvs, e, fz, h1, h2, h3, h4, h5⟩ := hW.cells id cs hcs
                obtain rfl : b2 = b' := Option.some.inj (h1.symm.trans hg)
                obtain ⟨c, hrun, hrel⟩ := run_loadVar_of (P := P) (w := w) (b := b2) (off := off) hagg hsz (by simp; omega) ((h4.drop off).take n) (fun v hv => h5 v (List.mem_of_mem_drop (List.mem_of_mem_take hv)))
                  (by
                    intro j c hj
                    rw [List.getElem?_take] at hj
                    split at hj
                    · rw [List.getElem?_drop] at hj
                      simp only [World.cell?, h2]
                      simpa using hj
                    · cases hj) hv
                refine ⟨c, ?_, hrel⟩
                rw [hf2]
                simp only [Array.getD_eq_getD_getElem?, hcc, Option.getD_some, asAddr, Sem.run_bind, Sem.run_pure, Result.andThen_ok, hrun]
              · rw [if_neg hle] at hv; cases hv
            | _ => simp at hv
      have hc' : chkR P l rs = true := by
        cases x <;> cases y <;> simp [chkR] at hc
        · exact hc.2
        · exact hc.2
      obtain ⟨c, hrun, hrel⟩ := one
      obtain ⟨cs, hrun2, hl2⟩ := ih hc' hws
      exact ⟨c :: cs, by simp only [List.mapM_cons, Sem.run_bind, hrun, Result.andThen_ok, hrun2, Sem.run_pure], LR.cons hrel hl2⟩
theorem results_run {bn : Nat} {g : G} {fr : Fr} {st : St} {w : World} {fn : Func} {rs : List RV} {tmps : Array Value} {v : V} (hc : chkR P fn.results.toList rs = true) (hF : FRel g N fr tmps) (hW : WRel (mkEnv P bn) g st w) (hv : resV fr st rs = some v) :
    ∃ c, (results fn tmps).run P w = .ok c w ∧ VRel g v c := by
  have go : ∀ {vs : List V}, lookAll fr st rs = some vs → ∃ cs, (results fn tmps).run P w = .ok (if h : cs.length = 1 then cs[0] else .tuple cs.toArray) w ∧ LR (VRel g) vs cs := by
    intro vs hvs
    have hh : ∃ cs, (results fn tmps).run P w = .ok (if h : cs.length = 1 then cs[0] else .tuple cs.toArray) w ∧ LR (VRel g) vs cs := by
      simp only [results, Array.mapM_eq_mapM_toList, Sem.run_bind, Sem.run_map]
      obtain ⟨cs, hrun, hl⟩ := res_run (P := P) hF hW (fun (x : ResultVar) => match x with | ResultVar.tmp t => pure (tmps.getD t undef) | ResultVar.cell a t => do loadVar t (← asAddr (tmps.getD a undef))) (fun t => rfl) (fun a t => rfl) hc hvs
      refine ⟨cs, ?_, hl⟩
      have hrun' := hrun
      conv at hrun' => lhs; change Sem.run P (List.mapM _ _) w
      first
        | (rw [hrun]; simp; done)
        | (erw [hrun]; simp)
    exact hh
  unfold resV at hv
  split at hv
  · rename_i t
    obtain ⟨cs, hrun, hl⟩ := go (vs := [v]) (by simp [lookAll, hv])
    obtain ⟨c, m', rfl, h1, h2⟩ := hl.cons_left
    rw [h2.nil_left] at hrun
    exact ⟨c, by rw [hrun]; simp, h1⟩
  · rename_i hne
    simp only [Option.bind_eq_some_iff, Option.some.injEq] at hv
    obtain ⟨vs, hvs, rfl⟩ := hv
    obtain ⟨cs, hrun, hl⟩ := go hvs
    have hlen : vs.length = rs.length := by
      have : ∀ {rs : List RV} {vs : List V}, lookAll fr st rs = some vs → vs.length = rs.length := by
        intro rs
        induction rs with
        | nil => intro vs h; simp [lookAll] at h; subst h; rfl
        | cons t r ih =>
          intro vs h
          simp only [lookAll, Option.bind_eq_some_iff, Option.some.injEq] at h
          obtain ⟨_, _, ws, hws, rfl⟩ := h
          simp [ih hws]
      exact this hvs
    have hn1 : cs.length ≠ 1 := by
      rw [← hl.1, hlen]
      intro h
      obtain ⟨t, ht⟩ := List.length_eq_one_iff.1 h
      exact hne t ht
    refine ⟨.tuple cs.toArray, by rw [hrun]; simp [hn1], .tup (by simpa using hl.1) (by simpa using hl.2)⟩
def FinQ (rs : List RV) (Q : Res → St → Prop) : AE → Fr → St → Prop := fun e fr st' => match e with
  | .normal => ∃ v, resV fr st' rs = some v ∧ Q (.ret v) st'
  | .ret => ∃ v, resV fr st' rs = some v ∧ Q (.ret v) st'
  | .pan v => Q (.pan v) st'
  | .exit _ => False
def chkF (P : Program) (fn : Func) (ac : AC) (rs : List RV) (n : Nat) : Bool :=
  match fn.body with
  | some c => chkC P fn.ntmps c ac && chkR P fn.results.toList rs && decide (n ≤ fn.ntmps)
  | none => false
theorem rcall_of {f : FuncId} {fn : Func} {ac : AC} {rs : List RV} {args : List V} {st : St} {Q : Res → St → Prop} {n : Nat}
    (hf : P.funcs[f]? = some fn) (hc : chkF P fn ac rs n = true) (hn : args.length = n)
    (h : awp P ac (initFr args 0) st (FinQ rs Q)) : RCall P f args st Q := by
  intro bn g w cargs hW hA
  unfold chkF at hc
  cases hb : fn.body with
  | none => simp [hb] at hc
  | some c =>
  simp only [hb, Bool.and_eq_true, decide_eq_true_eq] at hc
  obtain ⟨⟨hc, hres⟩, hn'⟩ := hc
  have hsz : cargs.size = args.length := by have := hA.1; simp at this; omega
  refine calls_of_wp hf hb ?_
  have hF : FRel g fn.ntmps (initFr args 0) (cargs ++ Array.replicate (fn.ntmps - cargs.size) undef) := by
    refine ⟨by simp; omega, fun i v hi => ?_⟩
    rw [look_init, if_pos (Nat.zero_le _), Nat.sub_zero] at hi
    obtain ⟨cc, hcc, hr⟩ := hA.get hi
    have hlt := (List.getElem?_eq_some_iff.1 hcc).1
    refine ⟨cc, ?_, hr⟩
    rw [Array.getElem?_append_left (by simpa using hlt)]
    simpa using hcc
  refine wp_mono (awp_sound (bn := bn) (a := { tmps := cargs ++ Array.replicate (fn.ntmps - cargs.size) undef, defers := [] }) hc h hF hW) ?_
  rintro e a' w' ⟨g', fr', st', e', hx, hF', hW', hS, hD, hq⟩
  have fin : (∃ v, resV fr' st' rs = some v ∧ Q (.ret v) st') → a'.defers = [] ∧ ∃ v, (results fn a'.tmps).run P w' = .ok v w' ∧ ∃ g' st' r, ERel g' r (.returned v) ∧ WRel (mkEnv P bn) g' st' w' ∧ Step g w g' w' ∧ Q r st' := by
    rintro ⟨v, hv, hq⟩
    obtain ⟨c, hrun, hrel⟩ := results_run hres hF' hW' hv
    exact ⟨hD, c, hrun, g', st', .ret v, hrel, hW', hS, hq⟩
  cases e' with
  | normal => cases e <;> simp only [XRel] at hx; exact fin hq
  | ret => cases e <;> simp only [XRel] at hx; exact fin hq
  | exit i => exact hq.elim
  | pan v =>
    cases e <;> simp only [XRel] at hx
    exact ⟨hD, g', st', .pan v, hx, hW', hS, hq⟩
end
end Go.Sim
