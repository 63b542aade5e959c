/- Merged by a program of mine (pack.py) out of my own texts; what is not used is left out. -/
import Derived.Test.YtffenelcgjdbiaaGreatDoorKOramPlays18
set_option linter.unusedVariables false
set_option linter.unusedSimpArgs false
namespace Go.Sim
open Go
theorem flat_take {sz : Nat} : ∀ {l : List V}, (∀ e ∈ l, e.cells.length = sz) → ∀ k, flat (l.take k) = (flat l).take (k * sz)
  | [], _, k => by simp [flat]
  | x :: l, hs, 0 => by simp [flat]
  | x :: l, hs, k + 1 => by
    have hx : x.cells.length = sz := hs x (by simp)
    have ih := flat_take (l := l) (fun y hy => hs y (by simp [hy])) k
    show x.cells ++ flat (l.take k) = (x.cells ++ flat l).take ((k + 1) * sz)
    rw [ih, List.take_append, show (k + 1) * sz = x.cells.length + k * sz by rw [hx, Nat.add_mul, Nat.one_mul, Nat.add_comm]]
    have h1 : x.cells.take (x.cells.length + k * sz) = x.cells := List.take_of_length_le (by omega)
    rw [h1, Nat.add_sub_cancel_left]
theorem flat_drop {sz : Nat} : ∀ {l : List V}, (∀ e ∈ l, e.cells.length = sz) → ∀ k, flat (l.drop k) = (flat l).drop (k * sz)
  | [], _, k => by simp [flat]
  | x :: l, hs, 0 => by simp
  | x :: l, hs, k + 1 => by
    have hx : x.cells.length = sz := hs x (by simp)
    have ih := flat_drop (l := l) (fun y hy => hs y (by simp [hy])) k
    show flat (l.drop k) = (x.cells ++ flat l).drop ((k + 1) * sz)
    rw [ih, show (k + 1) * sz = x.cells.length + k * sz by rw [hx, Nat.add_mul, Nat.one_mul, Nat.add_comm]]
    have h1 : x.cells.drop (x.cells.length + k * sz) = [] := List.drop_eq_nil_of_le (by omega)
    rw [List.drop_append, h1, List.nil_append, Nat.add_sub_cancel_left]
section
variable {P : Program} {B : Env} {g : G} {st st' : St} {w : World} {o : Oper} {a : Act} {N : Nat} {fr : Fr} {v : V}
theorem run_sliceAt_slice {t e : TypeId} {sz len cap : Nat} {base : Option Addr} {lo hi mx : Option Value} {b h m : Nat} (hte : P.underlying t = some (.slice e)) (hsz : szIs P e sz = true)
    (hr : ∀ w, (Instr.sliceBounds true len cap lo hi mx).run P w = .ok (b, h, m) w) :
    (Instr.sliceAt t (.slice base len cap) lo hi mx).run P w = .ok (.slice (if m = b then base else base.map (·.add (b * sz))) (h - b) (m - b)) w := by
  simp [Instr.sliceAt, Instr.slice, underlying, hte, hr, run_sizeOf_is hsz]
theorem sound_sl {t : TypeId} {x : Operand} {x' : AO} {lo hi mx : Option Operand} {lo' hi' mx' : Option AO} {sz : Nat} (ho : o.op = .slice t x lo hi mx) (hx : chkO x x' = true) (hlo : chkB lo lo' = true) (hhi : chkB hi hi' = true) (hmx : chkB mx mx' = true)
    (hneed : (mx.isNone || hi.isSome) = true) (ht : sliceElem P t sz = true) (hF : FRel g N fr a.tmps) (hW : WRel B g st w)
    (he : evalA (.sl sz x' lo' hi' mx') fr st = some (v, st')) : Good P B g w o a v st' := by
  simp only [evalA, Option.bind_eq_some_iff] at he
  obtain ⟨u, hu, he⟩ := he
  obtain ⟨e, hte, hsz, hsz0⟩ := sliceElem_some ht
  have hneed' : mx = none ∨ hi ≠ none := by
    cases mx <;> cases hi <;> simp_all
  have hr := chkO_sound hx hF hu
  generalize hxe : a.eval x = cx at hr
  cases hr with
  | lst hn hs hone hc himm hl hr' =>
    rename_i s l c base n cap cvs
    subst hn
    by_cases hss : s = sz
    · subst hss
      simp only [if_true, Option.bind_eq_some_iff] at he
      obtain ⟨m, hm, h, hh, b, hb, he⟩ := he
      by_cases hcond : mx'.isNone = true ∨ h = m
      · rw [if_pos hcond] at he
        simp only [Option.some.injEq, Prod.mk.injEq] at he
        obtain ⟨rfl, rfl⟩ := he
        have hcapl : l.length ≤ cap := by
          cases c with
          | nil => obtain ⟨_, h1, h2⟩ := hc; omega
          | exact => obtain ⟨_, h2⟩ := hc; omega
          | full => obtain ⟨_, h2⟩ := hc; omega
          | tail t => obtain ⟨_, _, _, _, _, h2, _⟩ := hc; exact h2
          | unk => exact hc.2
        obtain ⟨m', hm1, hm2, hbh, hhm, hml, hrun⟩ := sliceBounds_run (P := P) (isSlice := true) (cap := cap) hlo hhi hmx hF hm hh hb (Nat.le_refl _) hcapl hneed'
        have hm'm : m ≤ m' := by
          by_cases hmn : mx = none
          · have := hm1 hmn; omega
          · rw [hm2 hmn]; exact Nat.le_refl _
        have hmm : mx.isSome = mx'.isSome := by
          cases mx <;> cases mx' <;> simp_all [chkB]
        refine Good.pure hW (c := .slice (if m' = b then base else base.map (·.add (b * s))) (h - b) (m' - b)) ?_ ?_
        · simp only [execOp, ho, hxe, Sem.run_bind, run_sliceAt_slice hte hsz hrun]; rfl
        · have hlr : LR (VRel g) (flat l) cvs := ⟨hl, hr'⟩
          have hflat : flat ((l.take h).drop b) = ((flat l).take (h * s)).drop (b * s) := by
            rw [flat_drop (fun y hy => hs y (List.mem_of_mem_take hy)), flat_take hs]
          have hsub := (hlr.take (h * s)).drop (b * s)
          refine .lst (cvs := (cvs.take (h * s)).drop (b * s)) (by simp; omega) (fun y hy => hs y (List.mem_of_mem_take (List.mem_of_mem_drop hy))) ?_ ?_ ?_ ?_ ?_
          · intro z hz; rw [hflat] at hz; exact hone z (List.mem_of_mem_take (List.mem_of_mem_drop hz))
          · have baseok : ∀ b0 o0, base = some ⟨b0, o0, none⟩ → ∃ o1, (if m' = b then base else base.map (·.add (b * s))) = some ⟨b0, o1, none⟩ := by
              intro b0 o0 hb0
              subst hb0
              split
              · exact ⟨o0, rfl⟩
              · exact ⟨o0 + b * s, by simp [add_addr]⟩
            have unkok : (base = none ∨ (∃ b o, base = some ⟨b, o, none⟩) ∨ cap = 0) → CapOk g s (h - b) .unk (if m' = b then base else base.map (·.add (b * s))) (m' - b) := by
              intro hb0
              refine ⟨?_, by omega⟩
              rcases hb0 with rfl | ⟨b0, o0, hb0⟩ | h0
              · left; split <;> rfl
              · right; left; obtain ⟨o1, ho1⟩ := baseok b0 o0 hb0; exact ⟨b0, o1, ho1⟩
              · right; right
                have : m' ≤ cap := by
                  by_cases hmn : mx = none
                  · have := hm1 hmn; omega
                  · have := hm2 hmn; omega
                omega
            have exok : (∃ b o, base = some ⟨b, o, none⟩ ∧ g.lo ≤ b) → mx'.isSome = true → CapOk g s (h - b) .exact (if m' = b then base else base.map (·.add (b * s))) (m' - b) := by
              intro ⟨b0, o0, hb0, hlo0⟩ hsome
              have hne : mx ≠ none := by intro e; rw [e] at hmm; rw [← hmm] at hsome; cases hsome
              have hmeq := hm2 hne
              have : h = m := by
                rcases hcond with hcond | hcond
                · cases mx' <;> simp_all
                · exact hcond
              obtain ⟨o1, ho1⟩ := baseok b0 o0 hb0; exact ⟨⟨b0, o1, ho1, hlo0⟩, by omega⟩
            have fullok : (base = none ∨ (∃ b o, base = some ⟨b, o, none⟩) ∨ cap = 0) → mx'.isSome = true → CapOk g s (h - b) .full (if m' = b then base else base.map (·.add (b * s))) (m' - b) := by
              intro hb0 hsome
              obtain ⟨h1, _⟩ := unkok hb0
              refine ⟨h1, ?_⟩
              have hne : mx ≠ none := by intro e; rw [e] at hmm; rw [← hmm] at hsome; cases hsome
              have hmeq := hm2 hne
              have : h = m := by
                rcases hcond with hcond | hcond
                · cases mx' <;> simp_all
                · exact hcond
              omega
            cases c with
            | nil =>
              obtain ⟨h1, h2, h3⟩ := hc
              have hm'0 : m' = 0 := by
                by_cases hmn : mx = none
                · have := hm1 hmn; omega
                · have := hm2 hmn; omega
              exact ⟨by subst h1; split <;> rfl, by omega, by omega⟩
            | exact =>
              obtain ⟨h1, h2⟩ := hc
              simp only [slCap]
              split
              · rename_i hsome; exact exok h1 hsome
              · obtain ⟨b0, o0, h1, _⟩ := h1; exact unkok (.inr (.inl ⟨b0, o0, h1⟩))
            | tail t0 =>
              obtain ⟨b0, o0, lim, h1, _, _, _, hlo0⟩ := hc
              simp only [slCap]
              split
              · rename_i hsome; exact exok ⟨b0, o0, h1, hlo0⟩ hsome
              · exact unkok (.inr (.inl ⟨b0, o0, h1⟩))
            | unk =>
              simp only [slCap]
              split
              · rename_i hsome; exact fullok hc.1 hsome
              · exact unkok hc.1
            | full =>
              simp only [slCap]
              split
              · rename_i hsome; exact fullok hc.1 hsome
              · exact unkok hc.1
          · intro j cc hj
            have hjlt := (List.getElem?_eq_some_iff.1 hj).1
            rw [List.getElem?_drop, List.getElem?_take] at hj
            split at hj
            · rename_i hlt
              obtain ⟨b2, o2, hb2, hi2⟩ := himm _ _ hj
              subst hb2
              have : b < h := by
                rcases Nat.lt_or_ge b h with hbh' | hbh'
                · exact hbh'
                · exfalso
                  have : h * s ≤ b * s := Nat.mul_le_mul_right _ hbh'
                  omega
              have hne : m' ≠ b := by omega
              refine ⟨b2, o2 + b * s, ?_, by rw [Nat.add_assoc]; exact hi2⟩
              rw [if_neg hne]; simp [add_addr]
            · cases hj
          · rw [hflat]; exact hsub.1
          · rw [hflat]; exact hsub.2
      · rw [if_neg hcond] at he; cases he
    · simp only [if_neg hss] at he; cases he
  | ref hg hlc =>
    rename_i s id off len cap bk
    by_cases hss : s = sz ∧ mx'.isNone = true
    · simp only [if_pos hss, Option.bind_eq_some_iff, Option.some.injEq, Prod.mk.injEq] at he
      obtain ⟨rfl, hmn⟩ := hss
      obtain ⟨h, hh, b, hb, rfl, rfl⟩ := he
      have hmx0 : mx = none := by cases mx <;> cases mx' <;> simp_all [chkB]
      have hmx0' : mx' = none := by cases mx' <;> simp_all
      subst hmx0 hmx0'
      obtain ⟨m', hm1, hm2, hbh, hhm, hml, hrun⟩ := sliceBounds_run (P := P) (isSlice := true) (cap := cap) (capA := cap) (m := cap) (mx := none) (mx' := none) hlo hhi rfl hF rfl hh hb hlc (Nat.le_refl _) (.inl rfl)
      obtain ⟨rfl, _⟩ := hm1 rfl
      refine Good.pure hW (c := .slice (some ⟨bk, (if m' = b then off else off + b * s), none⟩) (h - b) (m' - b)) ?_ (.ref hg (by omega))
      have hrun' : ∀ w, (Instr.sliceBounds true len m' (lo.map a.eval) (hi.map a.eval) none).run P w = .ok (b, h, m') w := hrun
      have key := run_sliceAt_slice (P := P) (w := w) (base := some ⟨bk, off, none⟩) hte hsz hrun'
      simp only [execOp, ho, hxe, Sem.run_bind, Option.map_none, key, Result.andThen_ok, Sem.run_pure]
      by_cases hmb : m' = b <;> simp [hmb, add_addr]
    · simp only [if_neg hss] at he; cases he
  | _ => simp at he
theorem sound_slA {t : TypeId} {x : Operand} {x' : AO} {lo hi : Option Operand} {lo' hi' : Option AO} {n sz : Nat} (ho : o.op = .slice t x lo hi none) (hx : chkO x x' = true) (hlo : chkB lo lo' = true) (hhi : chkB hi hi' = true)
    (ht : arrElem P t n sz = true) (hF : FRel g N fr a.tmps) (hW : WRel B g st w)
    (he : evalA (.slA n sz x' lo' hi') fr st = some (v, st')) : Good P B g w o a v st' := by
  simp only [evalA, Option.bind_eq_some_iff] at he
  obtain ⟨u, hu, he⟩ := he
  obtain ⟨e, hte, hsz, hsz0⟩ := arrElem_some ht
  have hr := chkO_sound hx hF hu
  generalize hxe : a.eval x = cx at hr
  cases hr with
  | ptr hg =>
    rename_i id off bk
    simp only [Option.bind_eq_some_iff, Option.some.injEq, Prod.mk.injEq] at he
    obtain ⟨h, hh, b, hb, rfl, rfl⟩ := he
    obtain ⟨m', hm1, hm2, hbh, hhm, hml, hrun⟩ := sliceBounds_run (P := P) (isSlice := false) (cap := n) (capA := n) (m := n) (mx := none) (mx' := none) hlo hhi rfl hF rfl hh hb (Nat.le_refl _) (Nat.le_refl _) (.inl rfl)
    obtain ⟨rfl, _⟩ := hm1 rfl
    refine Good.pure hW (c := .slice (some ⟨bk, (if m' = b then off else off + b * sz), none⟩) (h - b) (m' - b)) ?_ (.ref hg (by omega))
    have hrun' : ∀ w, (Instr.sliceBounds false m' m' (lo.map a.eval) (hi.map a.eval) none).run P w = .ok (b, h, m') w := hrun
    simp only [execOp, ho, hxe, Sem.run_bind, Instr.sliceAt, run_underlying hte, Result.andThen_ok, Option.map_none, Instr.sureAddr, Sem.run_pure, hrun', run_sizeOf_is hsz]
    by_cases hmb : m' = b <;> simp [hmb, add_addr]
  | ep hone himm hl hr' =>
    rename_i cs bk o2 cvs
    by_cases hc : sz = 1 ∧ n ≤ cs.length
    · simp only [if_pos hc, Option.bind_eq_some_iff, Option.some.injEq, Prod.mk.injEq] at he
      obtain ⟨rfl, hn⟩ := hc
      obtain ⟨h, hh, b, hb, rfl, rfl⟩ := he
      obtain ⟨m', hm1, hm2, hbh, hhm, hml, hrun⟩ := sliceBounds_run (P := P) (isSlice := false) (cap := n) (capA := n) (m := n) (mx := none) (mx' := none) hlo hhi rfl hF rfl hh hb (Nat.le_refl _) (Nat.le_refl _) (.inl rfl)
      obtain ⟨rfl, _⟩ := hm1 rfl
      have hl2 : ((cs.take h).drop b).length = h - b := by simp; omega
      have hones : ∀ v ∈ (cs.take h).drop b, v.one = true := fun v hv => hone v (List.mem_of_mem_take (List.mem_of_mem_drop hv))
      have hflat : flat ((cs.take h).drop b) = (cs.take h).drop b := flat_ones _ hones
      have hlr : LR (VRel g) ((cs.take h).drop b) ((cvs.take h).drop b) := (LR.take ⟨hl, hr'⟩ h).drop b
      refine Good.pure hW (c := .slice (some ⟨bk, (if m' = b then o2 else o2 + b * 1), none⟩) (h - b) (m' - b)) ?_ (.lst (cvs := (cvs.take h).drop b) hl2.symm (fun e he => ?_) (by rw [hflat]; exact hones) ?_ ?_ (by rw [hflat]; exact hlr.1) (by rw [hflat]; exact hlr.2))
      · have hrun' : ∀ w, (Instr.sliceBounds false m' m' (lo.map a.eval) (hi.map a.eval) none).run P w = .ok (b, h, m') w := hrun
        simp only [execOp, ho, hxe, Sem.run_bind, Instr.sliceAt, run_underlying hte, Result.andThen_ok, Option.map_none, Instr.sureAddr, Sem.run_pure, hrun', run_sizeOf_is hsz]
        by_cases hmb : m' = b <;> simp [hmb, add_addr]
      · have := hones e he
        cases e <;> first | rfl | (simp [V.one] at this)
      · by_cases e : h = m'
        · rw [if_pos e]; exact ⟨.inr (.inl ⟨_, _, rfl⟩), by omega⟩
        · rw [if_neg e]; exact ⟨.inr (.inl ⟨_, _, rfl⟩), by omega⟩
      · intro j c hj
        have hjl := (List.getElem?_eq_some_iff.1 hj).1
        rw [List.length_drop, List.length_take] at hjl
        rw [List.getElem?_drop, List.getElem?_take] at hj
        split at hj
        · obtain ⟨b2, o3, hb2, hi2⟩ := himm _ c hj
          simp only [Option.some.injEq, Addr.mk.injEq, and_true] at hb2
          obtain ⟨rfl, rfl⟩ := hb2
          by_cases hmb : m' = b
          · omega
          · refine ⟨_, _, rfl, ?_⟩
            rw [if_neg hmb, Nat.mul_one, Nat.add_assoc]
            exact hi2
        · cases hj
    · simp only [if_neg hc] at he; cases he
  | _ => simp at he
theorem sound_slS {t : TypeId} {x : Operand} {x' : AO} {lo hi : Option Operand} {lo' hi' : Option AO} (ho : o.op = .slice t x lo hi none) (hx : chkO x x' = true) (hlo : chkB lo lo' = true) (hhi : chkB hi hi' = true)
    (ht : strIs P t = true) (hF : FRel g N fr a.tmps) (hW : WRel B g st w)
    (he : evalA (.slS x' lo' hi') fr st = some (v, st')) : Good P B g w o a v st' := by
  simp only [evalA, Option.bind_eq_some_iff] at he
  obtain ⟨u, hu, he⟩ := he
  have hd' : P.underlying t = some .string := by unfold strIs at ht; split at ht <;> simp_all
  have hr := chkO_sound hx hF hu
  generalize hxe : a.eval x = cx at hr
  cases hr with
  | str hs =>
    rename_i l s
    simp only [Option.bind_eq_some_iff, Option.some.injEq, Prod.mk.injEq] at he
    obtain ⟨h, hh, b, hb, rfl, rfl⟩ := he
    have hlen : l.length = s.size := by rw [← hs, Array.length_toList]; rfl
    obtain ⟨m', hm1, hm2, hbh, hhm, hml, hrun⟩ := sliceBounds_run (P := P) (isSlice := false) (cap := l.length) (capA := l.length) (m := l.length) (mx := none) (mx' := none) hlo hhi rfl hF rfl hh hb (Nat.le_refl _) (Nat.le_refl _) (.inl rfl)
    obtain ⟨rfl, _⟩ := hm1 rfl
    have hrun' : ∀ w, (Instr.sliceBounds false s.size s.size (lo.map a.eval) (hi.map a.eval) none).run P w = .ok (b, h, s.size) w := by rw [← hlen]; exact hrun
    refine Good.pure hW (c := .string (s.extract b h)) ?_ (.str ?_)
    · simp [execOp, ho, hxe, Instr.sliceAt, Instr.slice, run_underlying hd', hrun']
    · rw [ByteArray.data_extract, Array.toList_extract, hs, List.extract_eq_take_drop, List.drop_take]
  | _ => simp at he
theorem fill_fold : ∀ (vs : List Value) (off k : Nat) (cells : Array Value), off + k + vs.length ≤ cells.size →
    ((vs.zipIdx k).foldl (fun cs (x : Value × Nat) => cs.setIfInBounds (off + x.2) x.1) cells).toList = repl cells.toList (off + k) vs := by
  intro vs
  induction vs with
  | nil => intro off k cells _; simp [repl_nil]
  | cons v vs ih =>
    intro off k cells h
    simp only [List.length_cons] at h
    rw [List.zipIdx_cons, List.foldl_cons, ih off (k + 1) _ (by simp; omega)]
    simp only [Array.toList_setIfInBounds]
    rw [← Nat.add_assoc]
    exact repl_cons cells.toList (off + k) v vs (by simp; omega)
def chkPs (place : Nat → Option (Nat × Nat)) : List (Nat × Operand) → List (Nat × Nat × AO) → Bool
  | [], [] => true
  | (i, x) :: r, (off, n, y) :: s => place i == some (off, n) && chkO x y && chkPs place r s
  | _, _ => false
theorem fill_run (place : Nat → Option (Nat × Nat)) : ∀ {ps : List (Nat × Operand)} {qs : List (Nat × Nat × AO)} {vs : List (Nat × Nat × V)} {z z' : List V} {cells : Array Value},
    chkPs place ps qs = true → FRel g N fr a.tmps → evalPs fr qs = some vs → fillV z vs = some z' → LR (VRel g) z cells.toList → (∀ v ∈ z, v.one = true) →
    ∃ cells', Instr.fill place cells (ps.map fun p => (p.1, a.eval p.2)) = some cells' ∧ LR (VRel g) z' cells'.toList ∧ (∀ v ∈ z', v.one = true) := by
  intro ps
  induction ps with
  | nil =>
    intro qs vs z z' cells hc hF hv hf hl ho
    cases qs with
    | nil =>
      simp [evalPs] at hv; subst hv
      simp [fillV] at hf; subst hf
      exact ⟨cells, rfl, hl, ho⟩
    | cons => simp [chkPs] at hc
  | cons p ps ih =>
    intro qs vs z z' cells hc hF hv hf hl ho
    obtain ⟨i, x⟩ := p
    cases qs with
    | nil => simp [chkPs] at hc
    | cons q qs =>
      obtain ⟨off, n, y⟩ := q
      simp only [chkPs, Bool.and_eq_true, beq_iff_eq] at hc
      simp only [evalPs, Option.bind_eq_some_iff, Option.some.injEq] at hv
      obtain ⟨u, hu, us, hus, rfl⟩ := hv
      simp only [fillV] at hf
      split at hf
      · rename_i hcond
        obtain ⟨h1, h2, h3⟩ := hcond
        have hr := chkO_sound hc.1.2 hF hu
        have hcl := hr.cells
        have hone := hr.ones h2
        have hsz : (a.eval x).cells.size = n := by have := hcl.1; simp at this; omega
        have hlen : z.length = cells.size := by have := hl.1; simpa using this
        have hfold := fill_fold (a.eval x).cells.toList off 0 cells (by simp; omega)
        have hfold' : ((a.eval x).cells.zipIdx.foldl (fun cs (x : Value × Nat) => cs.setIfInBounds (off + x.2) x.1) cells).toList = repl cells.toList off (a.eval x).cells.toList := by
          rw [← Array.foldl_toList, Array.toList_zipIdx]
          simpa using hfold
        obtain ⟨cells', hfill, hl', ho'⟩ := ih (cells := (a.eval x).cells.zipIdx.foldl (fun cs (x : Value × Nat) => cs.setIfInBounds (off + x.2) x.1) cells) hc.2 hF hus hf
          (by rw [hfold']; exact hl.repl hcl off)
          (by
            intro v hv
            simp only [repl, List.mem_append] at hv
            rcases hv with (hv | hv) | hv
            · exact ho v (List.mem_of_mem_take hv)
            · exact hone v hv
            · exact ho v (List.mem_of_mem_drop hv))
        refine ⟨cells', ?_, hl', ho'⟩
        simp only [List.map_cons, Instr.fill, hc.1.1]
        have hfit : ¬ ((a.eval x).cells.size ≠ n ∨ off + (a.eval x).cells.size > cells.size) := by omega
        simp only [hfit, Bool.or_eq_true, decide_eq_true_eq, if_false]
        exact hfill
      · cases hf
def fieldsOk (P : Program) : List Field → Bool
  | [] => true
  | f :: r => (P.info? f.type).isSome && fieldsOk P r
theorem run_places (fs : List Field) (h : fieldsOk P fs = true) (w : World) :
    (fs.mapM fun f => (do pure (f.offset, ← sizeOf f.type) : Sem (Nat × Nat))).run P w = .ok (fs.map fun f => (f.offset, P.cellsOf f.type)) w := by
  induction fs with
  | nil => simp
  | cons f r ih =>
    simp only [fieldsOk, Bool.and_eq_true] at h
    obtain ⟨i, hi⟩ := Option.isSome_iff_exists.1 h.1
    have hsz : ∀ w, (sizeOf f.type).run P w = .ok (P.cellsOf f.type) w := fun w => by simp [sizeOf, typeInfo, hi, Program.cellsOf]
    have ih' := ih h.2
    simp only [List.mapM_cons, Sem.run_bind, hsz, Result.andThen_ok, Sem.run_pure]
    rw [ih']
    rfl
theorem sound_build {t : TypeId} {ps : Array (Nat × Operand)} {qs : List (Nat × Nat × AO)} {z : List V} {d : TypeDesc} {place : Nat → Option (Nat × Nat)} (ho : o.op = .build t ps) (hz : zcs P t z = true) (hu : P.underlying t = some d)
    (hd : match d with
      | .struct fs => fieldsOk P fs.toList = true ∧ place = fun i => (fs.toList.map fun f => (f.offset, P.cellsOf f.type))[i]?
      | .array _ e => ∃ sz, szIs P e sz = true ∧ place = fun i => some (i * sz, sz)
      | _ => False)
    (hc : chkPs place ps.toList qs = true) (hF : FRel g N fr a.tmps) (hW : WRel B g st w)
    (he : evalA (.build z qs) fr st = some (v, st')) : Good P B g w o a v st' := by
  simp only [evalA, Option.bind_eq_some_iff, Option.some.injEq, Prod.mk.injEq] at he
  obtain ⟨vs, hvs, cs, hcs, rfl, rfl⟩ := he
  obtain ⟨zc, hzr, hzc⟩ := run_zero_cells hz w
  have hzl := cvs_sound hzc g
  obtain ⟨cells', hfill, hl', ho'⟩ := fill_run (a := a) place hc hF hvs hcs hzl.1 hzl.2
  have hpl : (ps.map fun p => (p.1, a.eval p.2)).toList = ps.toList.map fun p => (p.1, a.eval p.2) := by simp
  refine Good.pure hW (c := .agg cells') ?_ (.agg ho' hl'.1 hl'.2)
  have hz' : ∀ c, (zeroValue t).run P w = .ok c w → c = zc := fun c hc => by rw [hzr] at hc; cases hc; rfl
  cases d with
  | struct fs =>
    obtain ⟨hf1, rfl⟩ := hd
    have hp := run_places (P := P) fs.toList hf1 w
    have hplace : (fun (i : Nat) => (fs.toList.map fun f => (f.offset, P.cellsOf f.type)).toArray[i]?) = fun i => (fs.toList.map fun f => (f.offset, P.cellsOf f.type))[i]? := by
      funext i; simp
    rw [← hplace] at hfill
    simp only [execOp, ho, Sem.run_bind, Instr.build, hzr, Result.andThen_ok, run_underlying hu, Array.mapM_eq_mapM_toList, Sem.run_map]
    rw [hp]
    simp only [Result.andThen_ok, hpl]
    rw [hfill]; rfl
  | array n e =>
    obtain ⟨sz, hsz, rfl⟩ := hd
    simp only [execOp, ho, Sem.run_bind, Instr.build, hzr, Result.andThen_ok, run_underlying hu, run_sizeOf_is hsz, hpl]
    rw [hfill]; rfl
  | _ => exact hd.elim
end
end Go.Sim
