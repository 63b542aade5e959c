/- Merged by a program of mine (pack.py) out of my own texts; what is not used is left out. -/
import Derived.Test.YtffenelcgjdbiaaGreatDoorKOramPlays31
set_option linter.unusedVariables false
set_option linter.unusedSimpArgs false
namespace Go.Sim
open Go
def Ls (listed : Array Bool) (i : Nat) : Prop := listed.getD i false = true
theorem Ls_set {listed : Array Bool} {i k : Nat} (h : i < listed.size) : Ls (listed.setIfInBounds i true) k ↔ Ls listed k ∨ k = i := by
  unfold Ls
  simp only [Array.getD_eq_getD_getElem?, Array.getElem?_setIfInBounds]
  by_cases e : i = k
  · subst e; simp [h]
  · rw [if_neg e]
    constructor
    · intro h; exact .inl h
    · rintro (h | h)
      · exact h
      · exact absurd h.symm e
def settled (ops : List Oper) (E : Nat) (listed : Array Bool) (r : Nat) : Prop := ∀ j, writerOf ops 0 r = some j → (E.testBit j = true ↔ Ls listed j)
structure Ctx where
  P : Program
  bn : Nat
  N : Nat
  ops : Array Oper
  T : List Nat
  AN : Nat
  AL : Nat
  g0 : G
  w0 : World
  D : List Deferred
  Qa : Fr → St → Prop
  R : V → St → Prop
abbrev Ctx.B (C : Ctx) : Env := mkEnv C.P C.bn
structure CtxOk (C : Ctx) : Prop where
  hT : ∀ i o, C.ops[i]? = some o → C.T.getD i 0 = unionT C.T (preds o)
  hw : ∀ i o d, C.ops[i]? = some o → o.dst = some d → writerOf C.ops.toList 0 d = some i
structure Early (C : Ctx) (g : G) (w : World) (a : Act) (i b : Nat) : Prop where
  al : C.AL.testBit i = true
  ex : ∃ o t ti v d, C.ops[i]? = some o ∧ o.op = .alloc t ∧ C.P.info? t = some ti ∧ ti.zero = some v ∧ o.dst = some d ∧ a.tmps[d]? = some (.pointer (some ⟨b, 0, none⟩)) ∧ Pend g w C.w0.heap.size b v.cells.toList
structure Late (C : Ctx) (L : Nat) (fr : Fr) (st : St) (i : Nat) : Prop where
  an : C.AN.testBit i = false
  ex : ∃ s, matchS C.P C.N C.ops.toList i s = true ∧ isFlt s = true ∧ roOk C.ops.toList C.T C.AN i s = true ∧ (isPu s = true ∨ L.testBit i = true) ∧ Fact s fr st
structure Inv (C : Ctx) (E L F : Nat) (items : List DI) (listed : Array Bool) (pb : Nat → Nat) (fr : Fr) (st : St) (g : G) (a : Act) (w : World) : Prop where
  size : listed.size = C.ops.size
  clo : ∀ i k, Ls listed i → (C.T.getD i 0).testBit k = true → Ls listed k
  early : ∀ i, Ls listed i → E.testBit i = false → Early C g w a i (pb i)
  pinj : ∀ i j, Ls listed i → E.testBit i = false → Ls listed j → E.testBit j = false → pb i = pb j → i = j
  late : ∀ i, E.testBit i = true → ¬ Ls listed i → Late C L fr st i
  frs : a.tmps.size = C.N
  frm : ∀ r v, look fr r = some v → settled C.ops.toList E listed r → ∃ c, a.tmps[r]? = some c ∧ VRel g v c
  eT : ∀ i k, E.testBit i = true → (C.T.getD i 0).testBit k = true → E.testBit k = true
  chk : chkI C.P C.N C.ops.toList C.T C.AN C.AL E L F items = true
  abs : awpD C.P items fr st C.Qa C.R
  W : WRel C.B g st w
  S : Step C.g0 C.w0 g w
  base : C.B.n ≤ C.w0.heap.size
  D : a.defers = C.D
section
variable {C : Ctx} {E L F : Nat} {items : List DI} {listed : Array Bool} {pb : Nat → Nat} {fr : Fr} {st : St} {g : G} {a : Act} {w : World}
theorem matchS_get {P : Program} {N : Nat} {ops : Array Oper} {i : Nat} {s : AS} (h : matchS P N ops.toList i s = true) : ∃ o, ops[i]? = some o ∧ chkS P N ops.toList o s = true := by
  unfold matchS at h
  simp only [Array.getElem?_toList] at h
  cases ho : ops[i]? with
  | none => rw [ho] at h; simp at h
  | some o => rw [ho] at h; exact ⟨o, rfl, h⟩
theorem chkS_dst {P : Program} {N : Nat} {ops : List Oper} {o : Oper} {s : AS} (h : chkS P N ops o s = true) : s.dst = o.dst ∧ ∀ d, o.dst = some d → d < N := by
  simp only [chkS, Bool.and_eq_true] at h
  have hd := h.1.1
  unfold dstOk at hd
  split at hd
  · rename_i h1 h2; exact ⟨by rw [h1, h2], fun d hd => by simp_all⟩
  · rename_i d e h1 h2
    simp only [Bool.and_eq_true, beq_iff_eq, decide_eq_true_eq] at hd
    obtain ⟨rfl, hlt⟩ := hd
    exact ⟨by rw [h1, h2], fun d' hd' => by rw [h1] at hd'; cases hd'; exact hlt⟩
  · cases hd
theorem settled_read (hI : Inv C E L F items listed pb fr st g a w) {i : Nat} {s : AS} (hro : roOk C.ops.toList C.T C.AN i s = true) (hnl : ¬ Ls listed i)
    (hT : ∀ k, (C.T.getD i 0).testBit k = true → Ls listed k) (hTE : ∀ k, (C.T.getD i 0).testBit k = true → E.testBit k = true) (hown : C.AN.testBit i = true → E.testBit i = false) :
    ∀ r ∈ asR s, settled C.ops.toList E listed r := by
  intro r hr j hj
  unfold roOk at hro
  have := List.all_eq_true.1 hro r hr
  simp only [hj, Bool.or_eq_true, Bool.and_eq_true, beq_iff_eq] at this
  rcases this with (h1 | ⟨h1, h2⟩) | ⟨rfl, h2⟩
  · exact ⟨fun _ => hT j h1, fun _ => hTE j h1⟩
  · have hnj : ¬ Ls listed j := fun hl => hnl (hI.clo j i hl h2)
    constructor
    · intro hE
      have := (hI.late j hE hnj).an
      rw [this] at h1; cases h1
    · intro hl; exact absurd hl hnj
  · exact ⟨fun hE => (by rw [hown h2] at hE; cases hE), fun hl => absurd hl hnl⟩
theorem look_only_mem {live : List Nat} {fr : Fr} {i : Nat} (h : i ∈ live) : look (only live fr) i = look fr i := by
  induction live with
  | nil => simp at h
  | cons j r ih =>
    simp only [only, List.filterMap_cons]
    by_cases e : j = i
    · subst e
      cases hj : look fr j with
      | none =>
        simp only [Option.map_none]
        cases hh : look (List.filterMap (fun i => Option.map (fun v => (i, v)) (look fr i)) r) j with
        | none => rfl
        | some v =>
          have := look_only r fr j v hh
          rw [hj] at this; cases this
      | some v => simp [look]
    · have hm : i ∈ r := by
        rcases List.mem_cons.1 h with h | h
        · exact absurd h.symm e
        · exact h
      cases hj : look fr j with
      | none => exact ih hm
      | some v =>
        simp only [Option.map_some, look, if_neg e]
        exact ih hm
theorem only_mem {live : List Nat} {fr : Fr} {i : Nat} {v : V} (h : look (only live fr) i = some v) : i ∈ live := by
  induction live with
  | nil => simp [only, look] at h
  | cons j r ih =>
    by_cases e : j = i
    · subst e; exact List.mem_cons_self
    · refine List.mem_cons_of_mem _ (ih ?_)
      simp only [only, List.filterMap_cons] at h
      cases hj : look fr j with
      | none => rw [hj] at h; exact h
      | some u =>
        rw [hj] at h
        simp only [Option.map_some, look, if_neg e] at h
        exact h
theorem frel_reads (hI : Inv C E L F items listed pb fr st g a w) {s : AS} (hs : ∀ r ∈ asR s, settled C.ops.toList E listed r) : FRel g C.N (only (asR s) fr) a.tmps :=
  ⟨hI.frs, fun i v hi => hI.frm i v (look_only _ _ _ _ hi) (hs i (only_mem hi))⟩
theorem Early.step {i b : Nat} (h : Early C g w a i b) {g' : G} {w' : World} (hS : Step g w g' w') {d : Option Nat} {c : Value} (hd : ∀ k, C.ops[i]? = some k → ∀ x, k.dst = some x → d ≠ some x) : Early C g' w' (a.put d c) i b := by
  obtain ⟨o, t, ti, v, dd, h1, h2, h3, h4, h5, h6, h7⟩ := h.ex
  refine ⟨h.al, o, t, ti, v, dd, h1, h2, h3, h4, h5, ?_, h7.step hS⟩
  cases d with
  | none => exact h6
  | some d =>
    have : d ≠ dd := fun e => hd o h1 dd h5 (by rw [e])
    simp only [Act.put]
    rw [Array.getElem?_setIfInBounds_ne this]; exact h6
theorem put_size (a : Act) (d : Option Nat) (c : Value) : (a.put d c).tmps.size = a.tmps.size := by cases d <;> simp [Act.put]
theorem lt_of_get {ops : Array Oper} {i : Nat} {o : Oper} (h : ops[i]? = some o) : i < ops.size := (Array.getElem?_eq_some_iff.1 h).1
theorem Inv.came (hC : CtxOk C) (hI : Inv C E L F items listed pb fr st g a w) {i : Nat} {o : Oper} (ho : C.ops[i]? = some o) (hE : E.testBit i = true) (hnl : ¬ Ls listed i)
    (hT : ∀ k, (C.T.getD i 0).testBit k = true → Ls listed k) (hdN : ∀ d, o.dst = some d → d < C.N) {v : V} {c : Value} {g' : G} {w' : World} (hd : hasD fr o.dst v) (hr : VRel g' v c) (hW : WRel C.B g' st w') (hS : Step g w g' w') :
    Inv C E L F items (listed.setIfInBounds i true) pb fr st g' (a.put o.dst c) w' := by
  have hlt : i < listed.size := by rw [hI.size]; exact lt_of_get ho
  have hls : ∀ k, Ls (listed.setIfInBounds i true) k ↔ Ls listed k ∨ k = i := fun k => Ls_set hlt
  have hpend : ∀ k, Ls (listed.setIfInBounds i true) k → E.testBit k = false → Ls listed k ∧ k ≠ i := by
    intro k hk hEk
    have hne : k ≠ i := fun e => by subst e; rw [hE] at hEk; cases hEk
    exact ⟨((hls k).1 hk).resolve_right hne, hne⟩
  refine ⟨by rw [Array.size_setIfInBounds]; exact hI.size, ?_, ?_, ?_, ?_, by rw [put_size]; exact hI.frs, ?_, hI.eT, hI.chk, hI.abs, hW, hI.S.trans hS, hI.base, (put_defers _ _ _).trans hI.D⟩
  · intro k m hk hkm
    rw [hls] at hk ⊢
    rcases hk with hk | rfl
    · exact .inl (hI.clo k m hk hkm)
    · exact .inl (hT m hkm)
  · intro k hk hEk
    obtain ⟨h1, h2⟩ := hpend k hk hEk
    refine (hI.early k h1 hEk).step hS ?_
    intro ok hok x hx e
    have := hC.hw k ok x hok hx
    rw [hC.hw i o x ho e] at this
    exact h2 (Option.some.inj this).symm
  · intro x y hx hEx hy hEy
    exact hI.pinj x y (hpend x hx hEx).1 hEx (hpend y hy hEy).1 hEy
  · intro k hEk hk
    exact hI.late k hEk fun hl => hk ((hls k).2 (.inl hl))
  · intro r u hu hset
    by_cases hri : o.dst = some r
    · rw [hri] at hd
      have : look fr r = some v := hd
      rw [this] at hu; cases hu
      refine ⟨c, ?_, hr⟩
      have := hdN r hri
      rw [hri]
      simp only [Act.put]
      rw [Array.getElem?_setIfInBounds_self_of_lt (by rw [hI.frs]; exact this)]
    · have hset' : settled C.ops.toList E listed r := by
        intro j hj
        have := hset j hj
        rw [hls] at this
        have hji : j ≠ i := by
          intro e; subst e
          obtain ⟨_, o', ho', hd'⟩ := writerOf_get hj
          rw [Nat.sub_zero, Array.getElem?_toList, ho] at ho'
          cases ho'; exact hri hd'
        constructor
        · intro hEj; exact (this.1 hEj).resolve_right hji
        · intro hlj; exact this.2 (.inl hlj)
      obtain ⟨cc, hcc, hrr⟩ := hI.frm r u hu hset'
      refine ⟨cc, ?_, hrr.mono hS.le⟩
      cases hdd : o.dst with
      | none => exact hcc
      | some d =>
        have : d ≠ r := fun e => hri (by rw [hdd, e])
        simp only [Act.put]
        rw [Array.getElem?_setIfInBounds_ne this]; exact hcc
theorem Inv.doLate (hC : CtxOk C) (hI : Inv C E L F items listed pb fr st g a w) {i : Nat} (hE : E.testBit i = true) (hnl : ¬ Ls listed i)
    (hT : ∀ k, (C.T.getD i 0).testBit k = true → Ls listed k) {Q : Exit → Act → World → Prop} {K : Act → World → Prop}
    (hK : ∀ g' a' w', Inv C E L F items (listed.setIfInBounds i true) pb fr st g' a' w' → K a' w') : wpOp C.P C.ops Q i K a w := by
  obtain ⟨han, s, hm, hfl, hro, hpl, hfact⟩ := hI.late i hE hnl
  obtain ⟨o, ho, hc⟩ := matchS_get hm
  obtain ⟨hsd, hdN⟩ := chkS_dst hc
  have hTE : ∀ k, (C.T.getD i 0).testBit k = true → E.testBit k = true := fun k hk => hI.eT i k hE hk
  have hset := settled_read hI hro hnl hT hTE (fun h => by rw [han] at h; cases h)
  have hF := frel_reads hI hset
  have hlook : ∀ r ∈ asR s, look fr r = look (only (asR s) fr) r := fun r hr => (look_only_mem hr).symm
  simp only [chkS, Bool.and_eq_true] at hc
  obtain ⟨⟨hd, hg⟩, hop⟩ := hc
  unfold wpOp
  simp only [ho]
  cases hso : s.op with
  | op ao =>
    have doit : ∀ v, evalA ao fr st = some (v, st) → hasD fr s.dst v → o.wp C.P a w K Q := by
      intro v he hv
      refine awpO_sound (K := fun v' st' => v' = v ∧ st' = st) (R := fun _ _ => False) hop hF hI.W ?_ ?_ ?_
      · have : awpO C.P s.op fr st (fun v' st' => v' = v ∧ st' = st) (fun _ _ => False) := by simp only [hso, awpO, he, and_self]
        rwa [awpO_congr (fr' := only (asR s) fr) (fun r hr => hlook r (by simp [asR, hr]))] at this
      · rintro g' st' v' c w' ⟨rfl, rfl⟩ hr hW' hS
        exact hK _ _ _ (hI.came hC ho hE hnl hT hdN (by rw [← hsd]; exact hv) hr hW' hS)
      · rintro g' st' v' c w' hf; exact hf.elim
    unfold Fact at hfact
    simp only [hso] at hfact
    rcases guard_sound (ops := C.ops) rfl hg hF with ⟨hn, hw⟩ | ⟨k, want, hsome, hw⟩
    · rw [if_pos hw]
      simp only [hn] at hfact
      obtain ⟨v, h1, h2⟩ := hfact
      exact .inl (doit v h1 h2)
    · simp only [hsome] at hfact
      split at hfact
      · rename_i b hb
        have hw' := hw b (by rw [← hlook k (by simp [asR, hsome])]; exact hb)
        by_cases hbw : b = true
        · rw [if_pos hbw] at hfact
          rw [if_pos (by rw [hw']; simpa using hbw)]
          obtain ⟨v, h1, h2⟩ := hfact
          exact .inl (doit v h1 h2)
        · rw [if_neg hbw] at hfact
          rw [if_neg (by rw [hw']; simpa using hbw)]
          exact hK _ _ _ (hI.came hC ho hE hnl hT hdN (v := .tup []) (c := undef) (by rw [← hsd]; exact hfact) (.tup (by simp) (fun i v c hi => by simp at hi)) hI.W (.refl g w))
      · exact hfact.elim
  | _ => simp [isFlt, hso] at hfl
theorem evalS_fact {s : AS} {fr fr1 : Fr} {st : St} (hf : isFlt s = true) (hown : ∀ r ∈ asR s, s.dst ≠ some r) (h : evalS s fr st = some fr1) : (∃ v, fr1 = putO fr s.dst v) ∧ Fact s fr1 st := by
  cases hop : s.op with
  | op o =>
    have same : ∀ {v st'}, evalA o fr st = some (v, st') → st' = st := by
      intro v st' he
      simp only [isFlt, hop, Bool.or_eq_true] at hf
      rcases hf with hf | hf
      · exact (pure_same hf he).1
      · exact load_same hf he
    have lk : ∀ v, ∀ r ∈ asR s, look (putO fr s.dst v) r = look fr r := by
      intro v r hr
      cases hd : s.dst with
      | none => rfl
      | some d =>
        simp only [putO, look_put]
        rw [if_neg (fun e => hown r hr (by rw [hd, e]))]
    have hh : ∀ v, hasD (putO fr s.dst v) s.dst v := by
      intro v
      cases hd : s.dst with
      | none => trivial
      | some d => simp [hasD, putO, look_put]
    have one : ∀ {v st'}, evalA o fr st = some (v, st') → evalA o (putO fr s.dst v) st = some (v, st) := by
      intro v st' he
      rw [evalA_congr (fr' := fr) (fun i hi => lk v i (by simp [asR, hop, sopR, hi])), he, same he]
    unfold evalS at h
    unfold Fact
    simp only [hop] at h ⊢
    cases hg : s.guard with
    | none =>
      simp only [hg, Option.bind_eq_some_iff, Option.some.injEq] at h ⊢
      obtain ⟨⟨v, st'⟩, he, rfl⟩ := h
      exact ⟨⟨v, rfl⟩, v, one he, hh v⟩
    | some p =>
      obtain ⟨j, want⟩ := p
      simp only [hg] at h ⊢
      cases hb : gval want (look fr j) with
      | none => simp [hb] at h
      | some b =>
          simp only [hb] at h
          have hj : ∀ v, gval want (look (putO fr s.dst v) j) = some b := fun v => by rw [lk v j (by simp [asR, hg]), hb]
          by_cases hbw : b = true
          · rw [if_pos hbw] at h
            simp only [Option.bind_eq_some_iff, Option.some.injEq] at h
            obtain ⟨⟨v, st'⟩, he, rfl⟩ := h
            refine ⟨⟨v, rfl⟩, ?_⟩
            simp only [hj, if_pos hbw]
            exact ⟨v, one he, hh v⟩
          · rw [if_neg hbw] at h
            cases h
            refine ⟨⟨_, rfl⟩, ?_⟩
            simp only [hj, if_neg hbw]
            exact hh _
  | _ => simp [isFlt, hop] at hf
theorem late_frame (hC : CtxOk C) (hI : Inv C E L F items listed pb fr st g a w) {i k : Nat} {o : Oper} (ho : C.ops[i]? = some o) (hEi : E.testBit i = false) (hk : E.testBit k = true)
    {sk : AS} (hm : matchS C.P C.N C.ops.toList k sk = true) (hro : roOk C.ops.toList C.T C.AN k sk = true) (hni : C.AN.testBit i = true → (C.T.getD i 0).testBit k = false) (v : V) :
    (∀ r ∈ asR sk, look fr r = look (putO fr o.dst v) r) ∧ ∀ d, sk.dst = some d → look fr d = look (putO fr o.dst v) d := by
  have hne : k ≠ i := fun e => by subst e; rw [hk] at hEi; cases hEi
  constructor
  · intro r hr
    cases hd : o.dst with
    | none => rfl
    | some d =>
      simp only [putO, look_put]
      by_cases e : d = r
      · exfalso
        subst e
        have hw := hC.hw i o d ho hd
        unfold roOk at hro
        have := List.all_eq_true.1 hro d hr
        simp only [hw, Bool.or_eq_true, Bool.and_eq_true, beq_iff_eq] at this
        rcases this with (h1 | ⟨h1, h2⟩) | ⟨h1, _⟩
        · have := hI.eT k i hk h1
          rw [hEi] at this; cases this
        · rw [hni h1] at h2; cases h2
        · exact hne h1.symm
      · rw [if_neg e]
  · intro d hd
    obtain ⟨ok, hok, hck⟩ := matchS_get hm
    have hsd := (chkS_dst hck).1
    cases hdo : o.dst with
    | none => rfl
    | some d' =>
      simp only [putO, look_put]
      by_cases e : d' = d
      · exfalso
        subst e
        have h1 := hC.hw i o d' ho hdo
        have h2 := hC.hw k ok d' hok (by rw [← hsd]; exact hd)
        rw [h1] at h2
        exact hne (Option.some.inj h2).symm
      · rw [if_neg e]
theorem add_false {E i k : Nat} (h : (E ||| 2 ^ i).testBit k = false) : E.testBit k = false ∧ k ≠ i := by
  constructor
  · cases he : E.testBit k with
    | false => rfl
    | true => rw [inM_add.2 (.inl he)] at h; cases h
  · intro e
    rw [inM_add.2 (.inr e)] at h; cases h
theorem settled_add {i r : Nat} {o : Oper} {ops : Array Oper} (ho : ops[i]? = some o) (hr : o.dst ≠ some r) (h : settled ops.toList (E ||| 2 ^ i) listed r) : settled ops.toList E listed r := by
  intro j hj
  have := h j hj
  rw [inM_add] at this
  have hji : j ≠ i := by
    intro e; subst e
    obtain ⟨_, o', ho', hd'⟩ := writerOf_get hj
    rw [Nat.sub_zero, Array.getElem?_toList, ho] at ho'
    cases ho'; exact hr hd'
  constructor
  · intro hE; exact this.1 (.inl hE)
  · intro hl; exact (this.2 hl).resolve_right hji
theorem base_spec {P : Program} {N : Nat} {ops : List Oper} {T : List Nat} {AN E i : Nat} {s : AS} (h : base P N ops T AN E i s = true) :
    matchS P N ops i s = true ∧ E.testBit i = false ∧ (∀ k, (T.getD i 0).testBit k = true → E.testBit k = true) ∧ roOk ops T AN i s = true := by
  simp only [base, Bool.and_eq_true, Bool.not_eq_true'] at h
  exact ⟨h.1.1.1, h.1.1.2, fun k hk => sub_spec h.1.2 hk, h.2⟩
theorem Inv.advFl (hC : CtxOk C) {i : Nat} {s : AS} {r : List DI} (hI : Inv C E L F (.fl i s :: r) listed pb fr st g a w) : ∃ L' fr', Inv C (E ||| 2 ^ i) L' F r listed pb fr' st g a w := by
  have hchk := hI.chk
  simp only [chkI, Bool.and_eq_true, Bool.not_eq_true'] at hchk
  obtain ⟨⟨⟨⟨⟨hb, hfl⟩, han⟩, hal⟩, hsub⟩, hrest⟩ := hchk
  obtain ⟨hm, hEi, hTE, hro⟩ := base_spec hb
  obtain ⟨o, ho, hc⟩ := matchS_get hm
  obtain ⟨hsd, hdN⟩ := chkS_dst hc
  have hnl : ¬ Ls listed i := fun hl => by
    have := (hI.early i hl hEi).al
    rw [hal] at this; cases this
  have hown : ∀ x ∈ asR s, s.dst ≠ some x := by
    intro x hx hd
    have hw := hC.hw i o x ho (by rw [← hsd]; exact hd)
    unfold roOk at hro
    have := List.all_eq_true.1 hro x hx
    simp only [hw, Bool.or_eq_true, Bool.and_eq_true, beq_iff_eq] at this
    rcases this with (h1 | ⟨h1, h2⟩) | ⟨h1, h2⟩
    · have := hTE i h1
      rw [hEi] at this; cases this
    · rw [han] at h1; cases h1
    · rw [han] at h2; cases h2
  have habs := hI.abs
  simp only [awpD] at habs
  split at habs
  · rename_i fr1 hev
    obtain ⟨⟨v, rfl⟩, hfact⟩ := evalS_fact hfl hown hev
    refine ⟨if isPu s then L else L ||| 2 ^ i, putO fr s.dst v, hI.size, hI.clo, ?_, ?_, ?_, hI.frs, ?_, ?_, hrest, habs, hI.W, hI.S, hI.base, hI.D⟩
    · intro k hk hEk
      exact hI.early k hk (add_false hEk).1
    · intro x y hx hEx hy hEy
      exact hI.pinj x y hx (add_false hEx).1 hy (add_false hEy).1
    · intro k hEk hk
      rcases inM_add.1 hEk with hEk | rfl
      · obtain ⟨kan, sk, k1, k2, k3, k4, k5⟩ := hI.late k hEk hk
        obtain ⟨q1, q2⟩ := late_frame hC hI ho hEi hEk k1 k3 (fun h => by rw [han] at h; cases h) v
        refine ⟨kan, sk, k1, k2, k3, ?_, k5.congr (by rw [hsd]; exact q1) (by rw [hsd]; exact q2)⟩
        rcases k4 with k4 | k4
        · exact .inl k4
        · refine .inr ?_
          split
          · exact k4
          · exact inM_add.2 (.inl k4)
      · refine ⟨han, s, hm, hfl, hro, ?_, hfact⟩
        by_cases hp : isPu s = true
        · exact .inl hp
        · rw [if_neg hp]; exact .inr (inM_add.2 (.inr rfl))
    · intro x u hu hset
      by_cases hx : o.dst = some x
      · exfalso
        have := (hset i (hC.hw i o x ho hx)).1 (inM_add.2 (.inr rfl))
        exact hnl this
      · refine hI.frm x u ?_ (settled_add ho hx hset)
        rw [← hsd] at hx
        cases hd : s.dst with
        | none => rw [hd] at hu; exact hu
        | some d =>
          rw [hd] at hu hx
          simp only [putO, look_put] at hu
          rwa [if_neg (fun e => hx (by rw [e]))] at hu
    · intro k m hEk hkm
      rcases inM_add.1 hEk with hEk | rfl
      · exact inM_add.2 (.inl (hI.eT k m hEk hkm))
      · exact inM_add.2 (.inl (hTE m hkm))
  · exact habs.elim
theorem Inv.advAl (hC : CtxOk C) {i : Nat} {s : AS} {r : List DI} (hI : Inv C E L F (.al i s :: r) listed pb fr st g a w) (hl : Ls listed i) :
    ∃ fr' st' g', g.le g' ∧ Inv C (E ||| 2 ^ i) L (F ||| 2 ^ i) r listed pb fr' st' g' a w := by
  have hchk := hI.chk
  simp only [chkI, Bool.and_eq_true, Bool.not_eq_true'] at hchk
  obtain ⟨⟨⟨⟨hb, hisal⟩, hal⟩, han⟩, hrest⟩ := hchk
  obtain ⟨hm, hEi, hTE, hro⟩ := base_spec hb
  obtain ⟨o, ho, hc⟩ := matchS_get hm
  obtain ⟨hsd, hdN⟩ := chkS_dst hc
  obtain ⟨_, o', t, ti, v, d, h1, h2, h3, h4, h5, h6, h7⟩ := hI.early i hl hEi
  rw [ho] at h1; cases h1
  have habs := hI.abs
  simp only [awpD] at habs
  split at habs
  · rename_i z hop
    simp only [chkS, Bool.and_eq_true] at hc
    have hz : zcs C.P t z = true := by
      have := hc.2
      rw [hop, h2] at this
      exact this
    have hcv : cvs z v.cells.toList = true := by simpa [zcs, h3, h4] using hz
    have hrel := cvs_sound hcv g
    have hbn : C.B.n ≤ pb i := Nat.le_trans hI.base h7.ge
    obtain ⟨hle, hW'⟩ := hI.W.adopt h7 hbn hrel.1 hrel.2
    have hd : s.dst = some d := by rw [hsd]; exact h5
    rw [hd] at habs
    refine ⟨put fr d (.ptr st.next 0), st.newC z, { g with obj := upd g.obj st.next (some (pb i)) }, hle, hI.size, hI.clo, ?_, ?_, ?_, hI.frs, ?_, ?_, hrest, habs, hW', hI.S.adopt h7.ge _ hle, hI.base, hI.D⟩
    · intro k hk hEk
      obtain ⟨e1, e2⟩ := add_false hEk
      obtain ⟨q0, o', t', ti', v', d', q1, q2, q3, q4, q5, q6, q7⟩ := hI.early k hk e1
      refine ⟨q0, o', t', ti', v', d', q1, q2, q3, q4, q5, q6, q7.ge, q7.lt, ?_, q7.tok, q7.imm, q7.heap⟩
      intro id hid
      by_cases e : id = st.next
      · subst e
        simp only [upd_same, Option.some.injEq] at hid
        exact e2 (hI.pinj i k hl hEi hk e1 hid).symm
      · simp only [upd_ne _ _ e] at hid
        exact q7.obj id hid
    · intro x y hx hEx hy hEy
      exact hI.pinj x y hx (add_false hEx).1 hy (add_false hEy).1
    · intro k hEk hk
      rcases inM_add.1 hEk with hEk | rfl
      · obtain ⟨kan, sk, k1, k2, k3, k4, k5⟩ := hI.late k hEk hk
        obtain ⟨q1, q2⟩ := late_frame hC hI ho hEi hEk k1 k3 (fun h => by rw [han] at h; cases h) (.ptr st.next 0)
        rw [h5] at q1 q2
        refine ⟨kan, sk, k1, k2, k3, k4, ?_⟩
        refine (k5.congr q1 q2).state ?_
        intro oo vv hoo he
        simp only [isFlt, hoo, Bool.or_eq_true] at k2
        rcases k2 with k2 | k2
        · exact (pure_same k2 he).2 _
        · exact load_newC k2 he
      · exact absurd hl hk
    · intro x u hu hset
      by_cases hx : o.dst = some x
      · rw [h5] at hx; cases hx
        rw [look_put, if_pos rfl] at hu
        cases hu
        exact ⟨_, h6, .ptr (by simp)⟩
      · have hx' : d ≠ x := fun e => hx (by rw [h5, e])
        rw [look_put, if_neg hx'] at hu
        obtain ⟨cc, hcc, hr⟩ := hI.frm x u hu (settled_add ho hx hset)
        exact ⟨cc, hcc, hr.mono hle⟩
    · intro k m hEk hkm
      rcases inM_add.1 hEk with hEk | rfl
      · exact inM_add.2 (.inl (hI.eT k m hEk hkm))
      · exact inM_add.2 (.inl (hTE m hkm))
  · exact habs.elim
theorem Inv.doAl (hC : CtxOk C) (hI : Inv C E L F items listed pb fr st g a w) {i : Nat} {s : AS} (hEi : E.testBit i = false) (hnl : ¬ Ls listed i) (hm : matchS C.P C.N C.ops.toList i s = true) (hisal : isAl s = true) (hal : C.AL.testBit i = true)
    (hT : ∀ k, (C.T.getD i 0).testBit k = true → Ls listed k) {Q : Exit → Act → World → Prop} {K : Act → World → Prop}
    (hK : ∀ pb' g' a' w', Inv C E L F items (listed.setIfInBounds i true) pb' fr st g' a' w' → K a' w') : wpOp C.P C.ops Q i K a w := by
  obtain ⟨o, ho, hc⟩ := matchS_get hm
  obtain ⟨hsd, hdN⟩ := chkS_dst hc
  simp only [chkS, Bool.and_eq_true] at hc
  obtain ⟨⟨hd, hg⟩, hop⟩ := hc
  have hs : ∃ z d, s.op = .op (.alloc z) ∧ s.guard = none ∧ s.dst = some d := by
    unfold isAl at hisal
    split at hisal
    · rename_i z d h1 h2 h3; exact ⟨z, d, h1, h2, h3⟩
    · cases hisal
  obtain ⟨z, d, hsop, hsg, hsdst⟩ := hs
  have hod : o.dst = some d := by rw [← hsd]; exact hsdst
  have hog : o.guard = none := by
    rw [hsg] at hg
    cases hgo : o.guard with
    | none => rfl
    | some p => rw [hgo] at hg; simp [chkGuard] at hg
  have hoop : ∃ t, o.op = .alloc t ∧ zcs C.P t z = true := by
    rw [hsop] at hop
    have hop' : chkOp C.P o.op (.alloc z) = true := by
      unfold chkSOp at hop
      split at hop
      · rename_i h1; cases h1
      · rename_i h1; cases h1
      · rename_i h1; cases h1
      · rename_i h1; cases h1
      · rename_i h1; cases h1
      · rename_i h1; cases h1
      · rename_i h1; cases h1; exact hop
      · cases hop
    generalize o.op = op at hop'
    cases op with
    | alloc t => exact ⟨t, rfl, hop'⟩
    | _ =>
      unfold chkOp at hop'
      split at hop' <;> first | (rename_i h1 h2; cases h2; done) | (rename_i h2; cases h2; done) | (cases hop'; done) | (rename_i h1 h2; cases h1; done) | (unfold chkCall at hop'; split at hop' <;> first | (cases hop'; done) | (rename_i h3; cases h3; done) | (rename_i h3 _ ; cases h3; done) | (rename_i h3 _ _ ; cases h3; done))
  obtain ⟨t, hot, hz⟩ := hoop
  have hinfo : ∃ ti v, C.P.info? t = some ti ∧ ti.zero = some v := by
    unfold zcs at hz
    split at hz
    · rename_i ti hti
      split at hz
      · rename_i v hv; exact ⟨ti, v, hti, hv⟩
      · cases hz
    · cases hz
  obtain ⟨ti, v, hti, hv⟩ := hinfo
  have hrun : (execOp a.eval o).run C.P w = .ok (.value (.pointer (some ⟨w.heap.size, 0, none⟩))) (w.alloc (.cells v.cells t)) := by
    simp [execOp, hot, Instr.alloc, zeroValue, typeInfo, hti, hv, newVar, newRow]
  obtain ⟨hW', hS⟩ := hI.W.newImm v.cells t 0
  have hlt : i < listed.size := by rw [hI.size]; exact lt_of_get ho
  have hls : ∀ k, Ls (listed.setIfInBounds i true) k ↔ Ls listed k ∨ k = i := fun k => Ls_set hlt
  have hd' := hdN d hod
  unfold wpOp
  simp only [ho]
  have hw : Region.wanted o (yielded C.ops a.tmps) = true := by simp [Region.wanted, hog]
  rw [if_pos hw]
  refine .inl ?_
  unfold Oper.wp
  rw [hrun]
  refine hK (upd pb i w.heap.size) (g.withImm w.heap.size (v.cells.toList.take 0)) (a.put o.dst (.pointer (some ⟨w.heap.size, 0, none⟩))) (w.alloc (.cells v.cells t))
    ⟨by rw [Array.size_setIfInBounds]; exact hI.size, ?_, ?_, ?_, ?_, by rw [put_size]; exact hI.frs, ?_, hI.eT, hI.chk, hI.abs, hW', hI.S.trans hS, hI.base, (put_defers _ _ _).trans hI.D⟩
  · intro k m hk hkm
    rw [hls] at hk ⊢
    rcases hk with hk | rfl
    · exact .inl (hI.clo k m hk hkm)
    · exact .inl (hT m hkm)
  · intro k hk hEk
    rcases (hls k).1 hk with hk' | rfl
    · have hne : k ≠ i := fun e => by subst e; exact hnl hk'
      rw [upd_ne _ _ hne]
      refine (hI.early k hk' hEk).step hS ?_
      intro ok hok x hx e
      have := hC.hw k ok x hok hx
      rw [hC.hw i o x ho e] at this
      exact hne (Option.some.inj this).symm
    · rw [upd_same]
      refine ⟨hal, o, t, ti, v, d, ho, hot, hti, hv, hod, ?_, ⟨hI.S.size, by simp, ?_, ?_, ?_, ⟨v.cells, t, (0, 0), alloc_new w _, .inl rfl, rfl⟩⟩⟩
      · rw [hod]
        simp only [Act.put]
        rw [Array.getElem?_setIfInBounds_self_of_lt (by rw [hI.frs]; exact hd')]
      · intro id hid
        have := (hI.W.blkO id _ hid).2
        omega
      · intro u j hj e
        have := (hI.W.blkT u j hj).2
        omega
      · intro x; simp [G.withImm]
  · intro x y hx hEx hy hEy hxy
    have old : ∀ x, Ls listed x → E.testBit x = false → pb x < w.heap.size := by
      intro x hx hEx
      obtain ⟨_, o', t', ti', v', d', q1, q2, q3, q4, q5, q6, q7⟩ := hI.early x hx hEx
      exact q7.lt
    rcases (hls x).1 hx with hx' | rfl <;> rcases (hls y).1 hy with hy' | rfl
    · have h1 : x ≠ i := fun e => by subst e; exact hnl hx'
      have h2 : y ≠ i := fun e => by subst e; exact hnl hy'
      rw [upd_ne _ _ h1, upd_ne _ _ h2] at hxy
      exact hI.pinj x y hx' hEx hy' hEy hxy
    · have h1 : x ≠ y := fun e => by subst e; exact hnl hx'
      rw [upd_ne _ _ h1, upd_same] at hxy
      have := old x hx' hEx
      omega
    · have h1 : y ≠ x := fun e => by subst e; exact hnl hy'
      rw [upd_ne _ _ h1, upd_same] at hxy
      have := old y hy' hEy
      omega
    · rfl
  · intro k hEk hk
    exact hI.late k hEk fun hl => hk ((hls k).2 (.inl hl))
  · intro r u hu hset
    by_cases hri : o.dst = some r
    · exfalso
      have := (hset i (hC.hw i o r ho hri)).2 ((hls i).2 (.inr rfl))
      rw [hEi] at this; cases this
    · have hset' : settled C.ops.toList E listed r := by
        intro j hj
        have := hset j hj
        rw [hls] at this
        have hji : j ≠ i := by
          intro e; subst e
          obtain ⟨_, o', ho', hd'⟩ := writerOf_get hj
          rw [Nat.sub_zero, Array.getElem?_toList, ho] at ho'
          cases ho'; exact hri hd'
        constructor
        · intro hEj; exact (this.1 hEj).resolve_right hji
        · intro hlj; exact this.2 (.inl hlj)
      obtain ⟨cc, hcc, hrr⟩ := hI.frm r u hu hset'
      refine ⟨cc, ?_, hrr.mono hS.le⟩
      have : d ≠ r := fun e => hri (by rw [hod, e])
      rw [hod]
      simp only [Act.put]
      rw [Array.getElem?_setIfInBounds_ne this]; exact hcc
theorem Inv.done (hC : CtxOk C) {i : Nat} {s : AS} {re : List (Nat × AS)} {r : List DI} (hI : Inv C E L F (.an i s re :: r) listed pb fr st g a w) (hnl : ¬ Ls listed i)
    (hT : ∀ k, (C.T.getD i 0).testBit k = true → Ls listed k) {o : Oper} (ho : C.ops[i]? = some o) (hsd : s.dst = o.dst) (hdN : ∀ d, o.dst = some d → d < C.N)
    {v : V} {c : Value} {st' : St} {g' : G} {w' : World} (hre : reOk (putO fr s.dst v) st' re) (habs : awpD C.P r (putO fr s.dst v) st' C.Qa C.R) (hr : VRel g' v c) (hW : WRel C.B g' st' w') (hS : Step g w g' w') :
    Inv C (E ||| 2 ^ i) L (F ||| 2 ^ i) r (listed.setIfInBounds i true) pb (putO fr s.dst v) st' g' (a.put o.dst c) w' := by
  have hchk := hI.chk
  simp only [chkI, Bool.and_eq_true, Bool.not_eq_true'] at hchk
  obtain ⟨⟨⟨⟨⟨⟨hb, han⟩, hal⟩, hsub⟩, hra⟩, hload⟩, hrest⟩ := hchk
  obtain ⟨hm, hEi, hTE, hro⟩ := base_spec hb
  have hlt : i < listed.size := by rw [hI.size]; exact lt_of_get ho
  have hls : ∀ k, Ls (listed.setIfInBounds i true) k ↔ Ls listed k ∨ k = i := fun k => Ls_set hlt
  have hpend : ∀ k, Ls (listed.setIfInBounds i true) k → (E ||| 2 ^ i).testBit k = false → Ls listed k ∧ E.testBit k = false ∧ k ≠ i := by
    intro k hk hEk
    obtain ⟨h1, h2⟩ := add_false hEk
    exact ⟨((hls k).1 hk).resolve_right h2, h1, h2⟩
  refine ⟨by rw [Array.size_setIfInBounds]; exact hI.size, ?_, ?_, ?_, ?_, by rw [put_size]; exact hI.frs, ?_, ?_, hrest, habs, hW, hI.S.trans hS, hI.base, (put_defers _ _ _).trans hI.D⟩
  · intro k m hk hkm
    rw [hls] at hk ⊢
    rcases hk with hk | rfl
    · exact .inl (hI.clo k m hk hkm)
    · exact .inl (hT m hkm)
  · intro k hk hEk
    obtain ⟨h1, h2, h3⟩ := hpend k hk hEk
    refine (hI.early k h1 h2).step hS ?_
    intro ok hok x hx e
    have := hC.hw k ok x hok hx
    rw [hC.hw i o x ho e] at this
    exact h3 (Option.some.inj this).symm
  · intro x y hx hEx hy hEy
    exact hI.pinj x y (hpend x hx hEx).1 (hpend x hx hEx).2.1 (hpend y hy hEy).1 (hpend y hy hEy).2.1
  · intro k hEk hk
    have hki : k ≠ i := fun e => hk ((hls k).2 (.inr e))
    have hkl : ¬ Ls listed k := fun h => hk ((hls k).2 (.inl h))
    have hEk' : E.testBit k = true := (inM_add.1 hEk).resolve_right hki
    obtain ⟨kan, sk, k1, k2, k3, k4, k5⟩ := hI.late k hEk' hkl
    by_cases hp : isPu sk = true
    · obtain ⟨q1, q2⟩ := late_frame hC hI ho hEi hEk' k1 k3 (fun _ => by
        cases hh : (C.T.getD i 0).testBit k with
        | false => rfl
        | true => exact absurd (hT k hh) hkl) v
      exact ⟨kan, sk, k1, k2, k3, .inl hp, (k5.congr (by rw [hsd]; exact q1) (by rw [hsd]; exact q2)).pure hp⟩
    · have hL := k4.resolve_left hp
      have := sub_spec hload hL
      rw [Nat.testBit_or, Bool.or_eq_true] at this
      rcases this with h1 | h1
      · exact absurd (hT k h1) hkl
      · obtain ⟨s', hs'⟩ := reMask_spec h1
        obtain ⟨q1, q2, q3⟩ := reAll_spec _ _ _ _ _ hra hs'
        exact ⟨kan, s', q1, q2, q3, .inr hL, reOk_spec hre hs'⟩
  · intro x u hu hset
    by_cases hx : o.dst = some x
    · rw [hsd, hx] at hu
      simp only [putO, look_put, if_true, Option.some.injEq] at hu
      subst hu
      refine ⟨c, ?_, hr⟩
      rw [hx]
      simp only [Act.put]
      rw [Array.getElem?_setIfInBounds_self_of_lt (by rw [hI.frs]; exact hdN x hx)]
    · have hset' : settled C.ops.toList E listed x := by
        refine settled_add ho hx ?_
        intro j hj
        have := hset j hj
        rw [hls] at this
        have hji : j ≠ i := by
          intro e; subst e
          obtain ⟨_, o', ho', hd'⟩ := writerOf_get hj
          rw [Nat.sub_zero, Array.getElem?_toList, ho] at ho'
          cases ho'; exact hx hd'
        constructor
        · intro hEj; exact (this.1 hEj).resolve_right hji
        · intro hlj; exact this.2 (.inl hlj)
      have hu' : look fr x = some u := by
        rw [hsd] at hu
        cases hd : o.dst with
        | none => rw [hd] at hu; exact hu
        | some d =>
          rw [hd] at hu hx
          simp only [putO, look_put] at hu
          rwa [if_neg (fun e => hx (by rw [e]))] at hu
      obtain ⟨cc, hcc, hrr⟩ := hI.frm x u hu' hset'
      refine ⟨cc, ?_, hrr.mono hS.le⟩
      cases hd : o.dst with
      | none => exact hcc
      | some d =>
        have : d ≠ x := fun e => hx (by rw [hd, e])
        simp only [Act.put]
        rw [Array.getElem?_setIfInBounds_ne this]; exact hcc
  · intro k m hEk hkm
    rcases inM_add.1 hEk with hEk | rfl
    · exact inM_add.2 (.inl (hI.eT k m hEk hkm))
    · exact inM_add.2 (.inl (hTE m hkm))
theorem Inv.doAn (hC : CtxOk C) {i : Nat} {s : AS} {re : List (Nat × AS)} {r : List DI} (hI : Inv C E L F (.an i s re :: r) listed pb fr st g a w) (hnl : ¬ Ls listed i)
    (hT : ∀ k, (C.T.getD i 0).testBit k = true → Ls listed k) {Q : Exit → Act → World → Prop} {K : Act → World → Prop}
    (hR : ∀ g' st' v c a' w', C.R v st' → VRel g' v c → a'.tmps.size = C.N → WRel C.B g' st' w' → Step C.g0 C.w0 g' w' → a'.defers = C.D → Q (.panic [{ v := c, recovered := false }]) a' w')
    (hK : ∀ fr' st' g' a' w', Inv C (E ||| 2 ^ i) L (F ||| 2 ^ i) r (listed.setIfInBounds i true) pb fr' st' g' a' w' → K a' w') : wpOp C.P C.ops Q i K a w := by
  have hchk := hI.chk
  simp only [chkI, Bool.and_eq_true, Bool.not_eq_true'] at hchk
  obtain ⟨⟨⟨⟨⟨⟨hb, han⟩, hal⟩, hsub⟩, hra⟩, hload⟩, hrest⟩ := hchk
  obtain ⟨hm, hEi, hTE, hro⟩ := base_spec hb
  obtain ⟨o, ho, hc⟩ := matchS_get hm
  obtain ⟨hsd, hdN⟩ := chkS_dst hc
  have hset := settled_read hI hro hnl hT hTE (fun _ => hEi)
  have hF := frel_reads hI hset
  have hlook : ∀ r ∈ asR s, look fr r = look (only (asR s) fr) r := fun r hr => (look_only_mem hr).symm
  simp only [chkS, Bool.and_eq_true] at hc
  obtain ⟨⟨hd, hg⟩, hop⟩ := hc
  unfold wpOp
  simp only [ho]
  have doit : awpO C.P s.op fr st (fun v st' => reOk (putO fr s.dst v) st' re ∧ awpD C.P r (putO fr s.dst v) st' C.Qa C.R) C.R → o.wp C.P a w K Q := by
    intro h
    rw [awpO_congr (fr' := only (asR s) fr) (fun r hr => hlook r (by simp [asR, hr]))] at h
    refine awpO_sound hop hF hI.W h ?_ ?_
    · rintro g' st' v c w' ⟨h1, h2⟩ hr hW' hS
      exact hK _ _ _ _ _ (hI.done hC hnl hT ho hsd hdN h1 h2 hr hW' hS)
    · intro g' st' v c w' h1 hr hW' hS
      exact hR g' st' v c a w' h1 hr hI.frs hW' (hI.S.trans hS) hI.D
  have habs := hI.abs
  simp only [awpD] at habs
  rcases guard_sound (ops := C.ops) rfl hg hF with ⟨hn, hw⟩ | ⟨k, want, hsome, hw⟩
  · rw [if_pos hw]
    simp only [hn] at habs
    exact .inl (doit habs)
  · simp only [hsome] at habs
    split at habs
    · rename_i b hb
      have hw' := hw b (by rw [← hlook k (by simp [asR, hsome])]; exact hb)
      by_cases hbw : b = true
      · rw [if_pos hbw] at habs
        rw [if_pos (by rw [hw']; simpa using hbw)]
        exact .inl (doit habs)
      · rw [if_neg hbw] at habs
        rw [if_neg (by rw [hw']; simpa using hbw)]
        exact hK _ _ _ _ _ (hI.done hC hnl hT ho hsd hdN (v := .tup []) (c := undef) habs.1 habs.2 (.tup (by simp) (fun i v c hi => by simp at hi)) hI.W (.refl g w))
    · exact habs.elim
def DI.idx : DI → Nat
  | .fl i _ => i
  | .al i _ => i
  | .an i _ _ => i
def DI.isAl : DI → Bool
  | .al .. => true
  | _ => false
theorem chkI_cover {P : Program} {N : Nat} {ops : List Oper} {T : List Nat} {AN AL : Nat} : ∀ {items : List DI} {E L F : Nat}, chkI P N ops T AN AL E L F items = true → ∀ i, i < ops.length → E.testBit i = false → ∃ pre x post, items = pre ++ x :: post ∧ x.idx = i := by
  intro items
  induction items with
  | nil =>
    intro E L F h i hi hE
    simp only [chkI, beq_iff_eq] at h
    rw [h, Nat.testBit_two_pow_sub_one, decide_eq_false_iff_not] at hE
    exact absurd hi hE
  | cons x r ih =>
    intro E L F h i hi hE
    have key : ∀ {L' F'}, chkI P N ops T AN AL (E ||| 2 ^ x.idx) L' F' r = true → ∃ pre y post, x :: r = pre ++ y :: post ∧ y.idx = i := by
      intro L' F' h'
      by_cases e : x.idx = i
      · exact ⟨[], x, r, rfl, e⟩
      · obtain ⟨pre, y, post, h1, h2⟩ := ih h' i hi (by
          cases hh : (E ||| 2 ^ x.idx).testBit i with
          | false => rfl
          | true =>
            rcases inM_add.1 hh with h3 | h3
            · rw [hE] at h3; cases h3
            · exact absurd h3.symm e)
        exact ⟨x :: pre, y, post, by rw [h1]; rfl, h2⟩
    cases x <;> simp only [chkI, Bool.and_eq_true] at h <;> exact key h.2
theorem chkI_eff {P : Program} {N : Nat} {ops : List Oper} {T : List Nat} {AN AL : Nat} {x : DI} {post : List DI} (hx : x.isAl = false) : ∀ {pre : List DI} {E L F : Nat}, chkI P N ops T AN AL E L F (pre ++ x :: post) = true → ∀ k, F.testBit k = true → (T.getD x.idx 0).testBit k = true := by
  intro pre
  induction pre with
  | nil =>
    intro E L F h k hk
    cases x with
    | fl i s => simp only [List.nil_append, chkI, Bool.and_eq_true] at h; exact sub_spec h.1.2 hk
    | al i s => simp [DI.isAl] at hx
    | an i s re => simp only [List.nil_append, chkI, Bool.and_eq_true] at h; exact sub_spec h.1.1.1.2 hk
  | cons y pre ih =>
    intro E L F h k hk
    cases y <;> simp only [List.cons_append, chkI, Bool.and_eq_true] at h
    · exact ih h.2 k hk
    · exact ih h.2 k (inM_add.2 (.inl hk))
    · exact ih h.2 k (inM_add.2 (.inl hk))
theorem Inv.upto (hC : CtxOk C) {x : DI} {post : List DI} (hx : x.isAl = false) (hT : ∀ k, (C.T.getD x.idx 0).testBit k = true → Ls listed k) : ∀ {pre : List DI} {E L F : Nat} {fr : Fr} {st : St} {g : G},
    Inv C E L F (pre ++ x :: post) listed pb fr st g a w → ∃ E' L' F' fr' st' g', Inv C E' L' F' (x :: post) listed pb fr' st' g' a w := by
  intro pre
  induction pre with
  | nil => intro E L F fr st g hI; exact ⟨E, L, F, fr, st, g, hI⟩
  | cons y pre ih =>
    intro E L F fr st g hI
    cases y with
    | fl i s =>
      obtain ⟨L', fr', hI'⟩ := Inv.advFl hC (r := pre ++ x :: post) hI
      exact ih hI'
    | al i s =>
      have hl : Ls listed i := by
        have hchk := hI.chk
        simp only [List.cons_append, chkI, Bool.and_eq_true] at hchk
        exact hT i (chkI_eff hx hchk.2 i (inM_add.2 (.inr rfl)))
      obtain ⟨fr', st', g', _, hI'⟩ := Inv.advAl hC (r := pre ++ x :: post) hI hl
      exact ih hI'
    | an i s re =>
      exfalso
      have hchk := hI.chk
      simp only [List.cons_append, chkI, Bool.and_eq_true, Bool.not_eq_true'] at hchk
      have hl : Ls listed i := hT i (chkI_eff hx hchk.2 i (inM_add.2 (.inr rfl)))
      have hEi := (base_spec hchk.1.1.1.1.1.1).2.1
      have := (hI.early i hl hEi).al
      rw [hchk.1.1.1.1.2] at this; cases this
theorem chkI_suffix {P : Program} {N : Nat} {ops : List Oper} {T : List Nat} {AN AL : Nat} {x : DI} {post : List DI} : ∀ {pre : List DI} {E L F : Nat}, chkI P N ops T AN AL E L F (pre ++ x :: post) = true → ∃ E' L' F', chkI P N ops T AN AL E' L' F' (x :: post) = true := by
  intro pre
  induction pre with
  | nil => intro E L F h; exact ⟨E, L, F, h⟩
  | cons y pre ih =>
    intro E L F h
    cases y <;> simp only [List.cons_append, chkI, Bool.and_eq_true] at h <;> exact ih h.2
theorem chkI_min {P : Program} {N : Nat} {ops : Array Oper} {T : List Nat} {AN AL : Nat} : ∀ {items : List DI} {E L F : Nat}, chkI P N ops.toList T AN AL E L F items = true → (∀ k, E.testBit k = true → Ls listed k) → (∃ i, i < ops.size ∧ ¬ Ls listed i) →
    ∃ i, i < ops.size ∧ ¬ Ls listed i ∧ ∀ k, (T.getD i 0).testBit k = true → Ls listed k := by
  intro items
  induction items with
  | nil =>
    intro E L F h hE hex
    exfalso
    obtain ⟨i, hi, hn⟩ := hex
    simp only [chkI, beq_iff_eq] at h
    exact hn (hE i (by rw [h, Nat.testBit_two_pow_sub_one, decide_eq_true_eq]; simpa using hi))
  | cons x r ih =>
    intro E L F h hE hex
    have hb : base P N ops.toList T AN E x.idx (match x with | .fl _ s => s | .al _ s => s | .an _ s _ => s) = true := by
      cases x <;> simp only [chkI, Bool.and_eq_true] at h
      · exact h.1.1.1.1.1
      · exact h.1.1.1.1
      · exact h.1.1.1.1.1.1
    obtain ⟨hm, _, hTE, _⟩ := base_spec hb
    obtain ⟨o, ho, _⟩ := matchS_get hm
    by_cases hl : Ls listed x.idx
    · have hE' : ∀ k, (E ||| 2 ^ x.idx).testBit k = true → Ls listed k := by
        intro k hk
        rcases inM_add.1 hk with hk | rfl
        · exact hE k hk
        · exact hl
      cases x <;> simp only [chkI, Bool.and_eq_true] at h <;> exact ih h.2 hE' hex
    · exact ⟨x.idx, lt_of_get ho, hl, fun k hk => hE k (hTE k hk)⟩
def unl (l : List Bool) : Nat := l.countP (fun b => !b)
theorem unl_set {l : List Bool} {i : Nat} (h : l[i]? = some false) : unl (l.set i true) + 1 = unl l := by
  induction l generalizing i with
  | nil => simp at h
  | cons b l ih =>
    cases i with
    | zero => simp at h; subst h; simp [unl]
    | succ i =>
      have := ih (i := i) (by simpa using h)
      simp only [unl, List.set_cons_succ, List.countP_cons] at this ⊢
      omega
theorem unl_zero {l : List Bool} (h : unl l = 0) (i : Nat) (hi : i < l.length) : l[i]? = some true := by
  unfold unl at h
  rw [List.countP_eq_zero] at h
  have := h l[i] (List.getElem_mem hi)
  rw [List.getElem?_eq_getElem hi]
  simpa using this
theorem ls_iff {listed : Array Bool} {i : Nat} (hi : i < listed.size) : Ls listed i ↔ listed.toList[i]? = some true := by
  unfold Ls
  rw [Array.getElem?_toList, Array.getD_eq_getD_getElem?, Array.getElem?_eq_getElem hi]
  simp
theorem nls_iff {listed : Array Bool} {i : Nat} (hi : i < listed.size) : ¬ Ls listed i ↔ listed.toList[i]? = some false := by
  unfold Ls
  rw [Array.getElem?_toList, Array.getD_eq_getD_getElem?, Array.getElem?_eq_getElem hi]
  simp
theorem ready_spec (hC : CtxOk C) (hI : Inv C E L F items listed pb fr st g a w) {i : Nat} (h : i ∈ Region.ready .any C.ops listed) : i < C.ops.size ∧ ¬ Ls listed i ∧ ∀ k, (C.T.getD i 0).testBit k = true → Ls listed k := by
  unfold Region.ready at h
  simp only [List.mem_filter, List.mem_range, Bool.and_eq_true, Bool.not_eq_true'] at h
  obtain ⟨hi, h1, h2⟩ := h
  have hio : C.ops[i]? = some C.ops[i] := Array.getElem?_eq_getElem hi
  refine ⟨hi, ?_, ?_⟩
  · intro hl
    unfold Ls at hl
    rw [Array.getD_eq_getD_getElem?, Array.getElem?_eq_getElem (by rw [hI.size]; exact hi)] at h1 hl
    simp only [Option.getD_some] at h1 hl
    rw [h1] at hl; cases hl
  · intro k hk
    rw [hio] at h2
    simp only [Option.map_some, Option.getD_some] at h2
    rw [hC.hT i _ hio, unionT_spec] at hk
    obtain ⟨j, hj, hk⟩ := hk
    have hlj : Ls listed j := by
      unfold preds at hj
      simp only [List.mem_map, List.mem_filter] at hj
      obtain ⟨e, ⟨he, hb⟩, rfl⟩ := hj
      rw [Array.all_eq_true_iff_forall_mem] at h2
      have := h2 e (Array.mem_toList_iff.1 he)
      simp only [hb, Bool.not_true, Bool.false_or] at this
      exact this
    rcases hk with rfl | hk
    · exact hlj
    · exact hI.clo j k hlj hk
theorem ready_of (hC : CtxOk C) {i : Nat} (hsz : listed.size = C.ops.size) (hi : i < C.ops.size) (hn : ¬ Ls listed i) (hT : ∀ k, (C.T.getD i 0).testBit k = true → Ls listed k) : i ∈ Region.ready .any C.ops listed := by
  have hio : C.ops[i]? = some C.ops[i] := Array.getElem?_eq_getElem hi
  unfold Region.ready
  simp only [List.mem_filter, List.mem_range, Bool.and_eq_true, Bool.not_eq_true']
  refine ⟨hi, ?_, ?_⟩
  · have := (nls_iff (by rw [hsz]; exact hi)).1 hn
    rw [Array.getElem?_toList] at this
    rw [Array.getD_eq_getD_getElem?, this]; rfl
  · rw [hio]
    simp only [Option.map_some, Option.getD_some]
    rw [Array.all_eq_true_iff_forall_mem]
    intro e he
    by_cases hb : Region.binds .any e = true
    · simp only [hb, Bool.not_true, Bool.false_or]
      refine hT e.on ?_
      rw [hC.hT i _ hio, unionT_spec]
      refine ⟨e.on, ?_, .inl rfl⟩
      unfold preds
      simp only [List.mem_map, List.mem_filter]
      exact ⟨e, ⟨Array.mem_toList_iff.2 he, hb⟩, rfl⟩
    · simp only [Bool.not_eq_true] at hb
      simp [hb]
theorem Inv.fin (hC : CtxOk C) (hl : ∀ i, i < C.ops.size → Ls listed i) {Q : Exit → Act → World → Prop}
    (hQ : ∀ g' fr' st' a' w', C.Qa fr' st' → FRel g' C.N fr' a'.tmps → WRel C.B g' st' w' → Step C.g0 C.w0 g' w' → a'.defers = C.D → Q .normal a' w') :
    ∀ {items : List DI} {E L F : Nat} {fr : Fr} {st : St} {g : G}, Inv C E L F items listed pb fr st g a w → Q .normal a w := by
  intro items
  induction items with
  | nil =>
    intro E L F fr st g hI
    have hchk := hI.chk
    simp only [chkI, beq_iff_eq] at hchk
    refine hQ g fr st a w hI.abs ⟨hI.frs, fun r v hr => hI.frm r v hr ?_⟩ hI.W hI.S hI.D
    intro j hj
    obtain ⟨_, o, ho, _⟩ := writerOf_get hj
    rw [Nat.sub_zero, Array.getElem?_toList] at ho
    have hlt := lt_of_get ho
    refine ⟨fun _ => hl j hlt, fun _ => ?_⟩
    rw [hchk, Nat.testBit_two_pow_sub_one, decide_eq_true_eq]
    simpa using hlt
  | cons x r ih =>
    intro E L F fr st g hI
    have hlt : Ls listed x.idx := by
      have hchk := hI.chk
      have hb : Go.Sim.base C.P C.N C.ops.toList C.T C.AN E x.idx (match x with | .fl _ s => s | .al _ s => s | .an _ s _ => s) = true := by
        cases x <;> simp only [chkI, Bool.and_eq_true] at hchk
        · exact hchk.1.1.1.1.1
        · exact hchk.1.1.1.1
        · exact hchk.1.1.1.1.1.1
      obtain ⟨hm, _, _, _⟩ := base_spec hb
      obtain ⟨o, ho, _⟩ := matchS_get hm
      exact hl _ (lt_of_get ho)
    cases x with
    | fl i s =>
      obtain ⟨L', fr', hI'⟩ := Inv.advFl hC hI
      exact ih hI'
    | al i s =>
      obtain ⟨fr', st', g', _, hI'⟩ := Inv.advAl hC hI hlt
      exact ih hI'
    | an i s re =>
      exfalso
      have hchk := hI.chk
      simp only [chkI, Bool.and_eq_true, Bool.not_eq_true'] at hchk
      have hEi := (base_spec hchk.1.1.1.1.1.1).2.1
      have := (hI.early i hlt hEi).al
      rw [hchk.1.1.1.1.2] at this; cases this
theorem Inv.run (hC : CtxOk C) {items0 : List DI} (h0 : chkI C.P C.N C.ops.toList C.T C.AN C.AL 0 0 0 items0 = true) {Q : Exit → Act → World → Prop}
    (hQ : ∀ g' fr' st' a' w', C.Qa fr' st' → FRel g' C.N fr' a'.tmps → WRel C.B g' st' w' → Step C.g0 C.w0 g' w' → a'.defers = C.D → Q .normal a' w')
    (hR : ∀ g' st' v c a' w', C.R v st' → VRel g' v c → a'.tmps.size = C.N → WRel C.B g' st' w' → Step C.g0 C.w0 g' w' → a'.defers = C.D → Q (.panic [{ v := c, recovered := false }]) a' w') :
    ∀ (fuel : Nat) {E L F : Nat} {items : List DI} {listed : Array Bool} {pb : Nat → Nat} {fr : Fr} {st : St} {g : G} {a : Act} {w : World},
      Inv C E L F items listed pb fr st g a w → unl listed.toList = fuel → wpAny C.P .any C.ops Q fuel listed a w := by
  have stop : ∀ {E L F : Nat} {items : List DI} {listed : Array Bool} {pb : Nat → Nat} {fr : Fr} {st : St} {g : G} {a : Act} {w : World},
      Inv C E L F items listed pb fr st g a w → Region.ready .any C.ops listed = [] → Q .normal a w := by
    intro E L F items listed pb fr st g a w hI hnil
    refine Inv.fin hC (fun i hi => ?_) hQ hI
    by_cases hl : Ls listed i
    · exact hl
    · exfalso
      obtain ⟨k, hk, hnk, hT⟩ := chkI_min h0 (fun k hk => by simp at hk) ⟨i, hi, hl⟩
      have := ready_of hC hI.size hk hnk hT
      rw [hnil] at this; cases this
  intro fuel
  induction fuel with
  | zero =>
    intro E L F items listed pb fr st g a w hI hf
    have hnil : Region.ready .any C.ops listed = [] := by
      cases hr : Region.ready .any C.ops listed with
      | nil => rfl
      | cons x xs =>
        exfalso
        obtain ⟨h1, h2, _⟩ := ready_spec hC hI (i := x) (by rw [hr]; exact List.mem_cons_self)
        exact h2 ((ls_iff (by rw [hI.size]; exact h1)).2 (unl_zero hf x (by simpa [hI.size] using h1)))
    exact ⟨hnil, stop hI hnil⟩
  | succ fuel ih =>
    intro E L F items listed pb fr st g a w hI hf
    refine ⟨stop hI, ?_⟩
    intro i hi
    obtain ⟨h1, h2, h3⟩ := ready_spec hC hI hi
    have hcount : unl (listed.setIfInBounds i true).toList = fuel := by
      have := unl_set ((nls_iff (by rw [hI.size]; exact h1)).1 h2)
      rw [Array.toList_setIfInBounds]
      omega
    by_cases hE : E.testBit i = true
    · exact hI.doLate hC hE h2 h3 fun g' a' w' hI' => ih hI' hcount
    · simp only [Bool.not_eq_true] at hE
      obtain ⟨pre, x, post, rfl, rfl⟩ := chkI_cover hI.chk i (by simpa using h1) hE
      obtain ⟨E', L', F', hsuf⟩ := chkI_suffix hI.chk
      cases x with
      | al i s =>
        simp only [chkI, Bool.and_eq_true] at hsuf
        exact hI.doAl hC hE h2 (base_spec hsuf.1.1.1.1).1 hsuf.1.1.1.2 hsuf.1.1.2 h3 fun pb' g' a' w' hI' => ih hI' hcount
      | fl i s =>
        obtain ⟨E1, L1, F1, fr1, st1, g1, hI1⟩ := Inv.upto hC (x := .fl i s) rfl h3 hI
        obtain ⟨L2, fr2, hI2⟩ := Inv.advFl hC hI1
        exact hI2.doLate hC (inM_add.2 (.inr rfl)) h2 h3 fun g' a' w' hI' => ih hI' hcount
      | an i s re =>
        obtain ⟨E1, L1, F1, fr1, st1, g1, hI1⟩ := Inv.upto hC (x := .an i s re) rfl h3 hI
        exact hI1.doAn hC h2 h3 hR fun fr' st' g' a' w' hI' => ih hI' hcount
end
theorem dreg_sound {P : Program} {bn : Nat} {N : Nat} {id : Nat} {ops : Array Oper} {T : List Nat} {AN AL : Nat} {ds : List DI} {fr : Fr} {st : St} {Qa : Fr → St → Prop} {R : V → St → Prop} {g : G} {a : Act} {w : World} {Q : Exit → Act → World → Prop}
    (hc : chkD P N ops T AN AL ds = true) (h : awpD P ds fr st Qa R) (hF : FRel g N fr a.tmps) (hW : WRel (mkEnv P bn) g st w)
    (hQ : ∀ g' fr' st' a' w', Qa fr' st' → FRel g' N fr' a'.tmps → WRel (mkEnv P bn) g' st' w' → Step g w g' w' → a'.defers = a.defers → Q .normal a' w')
    (hR : ∀ g' st' v c a' w', R v st' → VRel g' v c → a'.tmps.size = N → WRel (mkEnv P bn) g' st' w' → Step g w g' w' → a'.defers = a.defers → Q (.panic [{ v := c, recovered := false }]) a' w') :
    (Code.region id ops true).wp P Q a w := by
  simp only [chkD, Bool.and_eq_true] at hc
  obtain ⟨⟨⟨hm, hT⟩, hd⟩, hi⟩ := hc
  let C : Ctx := ⟨P, bn, N, ops, T, AN, AL, g, w.drew, a.defers, Qa, R⟩
  have hC : CtxOk C := ⟨fun i o ho => chkTs_get hT (by rw [Array.getElem?_toList]; exact ho), fun i o d ho hdst => by
    have := chkDst_get hd (i := i) (o := o) (d := d) (by rw [Array.getElem?_toList]; exact ho) hdst
    rw [Nat.zero_add] at this; exact this⟩
  have no : ∀ i, ¬ Ls (Array.replicate ops.size false) i := by
    intro i hl
    unfold Ls at hl
    rw [Array.getD_eq_getD_getElem?, Array.getElem?_replicate] at hl
    split at hl <;> simp at hl
  have hI : Inv C 0 0 0 ds (Array.replicate ops.size false) (fun _ => 0) fr st g a w.drew := by
    refine ⟨by simp [C], ?_, ?_, ?_, ?_, hF.size, ?_, ?_, hi, h, hW.drew, .refl _ _, hW.base, rfl⟩
    · intro i k hl; exact absurd hl (no i)
    · intro i hl; exact absurd hl (no i)
    · intro i j hl; exact absurd hl (no i)
    · intro i hE; simp at hE
    · intro r v hr _; exact hF.slot r v hr
    · intro i k hE; simp at hE
  refine wp_region_any hm ?_
  refine Inv.run hC hi (Q := Q) ?_ ?_ ops.size hI (by simp [unl, List.countP_replicate])
  · intro g' fr' st' a' w' h1 h2 h3 h4 h5
    exact hQ g' fr' st' a' w' h1 h2 h3 ((Step.drew g w).trans h4) h5
  · intro g' st' v c a' w' h1 h2 h3 h4 h5 h6
    exact hR g' st' v c a' w' h1 h2 h3 h4 ((Step.drew g w).trans h5) h6
end Go.Sim
