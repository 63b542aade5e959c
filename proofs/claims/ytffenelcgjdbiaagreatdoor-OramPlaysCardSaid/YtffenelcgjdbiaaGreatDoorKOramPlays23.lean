/- Merged by a program of mine (pack.py) out of my own texts; what is not used is left out. -/
import Derived.Test.YtffenelcgjdbiaaGreatDoorKOramPlays22
set_option linter.unusedVariables false
set_option linter.unusedSimpArgs false
namespace Go.Sim
open Go
section
variable {P : Program} {B : Env} {g : G} {st st' : St} {w : World} {o : Oper} {a : Act} {N : Nat} {fr : Fr} {v : V}
theorem exec_call2 {b : Builtin} {x y : Operand} {ts : Array TypeId} {c : Value} {w' : World} {s : Sem Value}
    (ho : o.op = .call { callee := .builtin b, args := #[x, y], argTypes := ts }) (hb : ∀ cs, builtin b ts o.type cs #[a.eval x, a.eval y] = (do pure (.value (← s)) : Sem Next))
    (hr : s.run P w = .ok c w') : (execOp a.eval o).run P w = .ok (.value c) w' := by
  simp [execOp, ho, resolve, invoke, hb, hr]
theorem sound_app {t t2 : TypeId} {ts : Array TypeId} {x y : Operand} {x' y' : AO} {sz bytes : Nat} (ho : o.op = .call { callee := .builtin .append, args := #[x, y], argTypes := ts }) (hts : ts[0]? = some t) (hts2 : ts[1]? = some t2)
    (hE : elemZero P t sz bytes = true) (hn : notInt P t2 = true) (hx : chkO x x' = true) (hy : chkO y y' = true) (hF : FRel g N fr a.tmps) (hW : WRel B g st w)
    (he : evalA (.app sz bytes false x' y') fr st = some (v, st')) : Good P B g w o a v st' := by
  simp only [evalA, Option.bind_eq_some_iff] at he
  obtain ⟨p, hp, q, hq, he⟩ := he
  obtain ⟨e, z, E⟩ := elemZero_some hE
  obtain ⟨d, hd, hd2⟩ := notInt_some hn
  have hr := chkO_sound hx hF hp
  have hr2 := chkO_sound hy hF hq
  generalize hxe : a.eval x = cx at hr
  generalize hye : a.eval y = cy at hr2
  cases hr with
  | lst hn' hs hone hc himm hl hr' =>
    rename_i s l c base n cap cvs
    subst hn'
    by_cases hss : s = sz ∧ True
    · obtain ⟨rfl, _⟩ := hss
      simp only [and_self, if_true, Option.bind_eq_some_iff] at he
      obtain ⟨m, hm, he⟩ := he
      by_cases hcond : (canApp st c = true ∨ m.isEmpty = true) ∧ (l.length + m.length) * bytes ≤ 140737488355328 ∧ l.length + m.length ≤ 140737488355328
      · rw [if_pos hcond] at he
        simp only [Option.some.injEq, Prod.mk.injEq] at he
        obtain ⟨rfl, rfl⟩ := he
        obtain ⟨cvm, h1, h2, h3, h4, h5⟩ := src_cells (P := P) hm hr2 hW (Nat.le_refl _)
        rw [List.take_length] at h3
        obtain ⟨g', c', w', hrun, hrel, hW', hS⟩ := append_run (P := P) (ty := o.type) hts hts2 E (.lst rfl hs hone hc himm hl hr') hW hcond.1 hcond.2.1 hcond.2.2 (.inl ⟨d, hd, hd2, h1, h2⟩) h3 h4 h5
        exact Good.step (c := c') (exec_call2 ho (fun cs => rfl) (by rw [hxe, hye]; exact hrun)) hrel hW' hS
      · rw [if_neg hcond] at he; cases he
    · have hss' : ¬ s = sz := fun h => hss ⟨h, trivial⟩
      simp [hss'] at he
  | ref hg hlc =>
    rename_i s id off len cap b
    by_cases hss : s = sz
    · subst hss
      simp only [and_self, if_true, Option.bind_eq_some_iff] at he
      obtain ⟨m, hm, cs, hcs, he⟩ := he
      by_cases hcond : len + m.length ≤ cap ∧ off + cap * s ≤ cs.length
      · rw [if_pos hcond] at he
        simp only [Option.some.injEq, Prod.mk.injEq] at he
        obtain ⟨rfl, rfl⟩ := he
        obtain ⟨cvm, h1, h2, h3, h4, h5⟩ := src_cells (P := P) hm hr2 hW (Nat.le_refl _)
        rw [List.take_length] at h3
        obtain ⟨b', cur, e', f, q1, q2, q3, q4, q5⟩ := hW.cells id cs hcs
        obtain rfl := Option.some.inj (q1.symm.trans hg)
        have hcsz : cs.length = cur.size := by have := q4.1; simpa using this
        have hcm : cvm.toList.length = m.length * s := length_cells_of h5 h3.1
        have hle : len * s + m.length * s ≤ cap * s := by rw [← Nat.add_mul]; exact Nat.mul_le_mul_right _ hcond.1
        have hset := hW.setObj (cs' := repl cs (off + len * s) (flat m)) (cvs := (repl cur.toList (off + len * s) cvm.toList).toArray) hcs q1 q2 q3
          (by simp only [List.size_toArray]; rw [length_repl _ _ _ (by rw [hcm]; simp; omega)]; simp)
          (by simpa using q4.repl h3 _)
          (by
            intro z hz
            simp only [repl, List.mem_append] at hz
            rcases hz with (hz | hz) | hz
            · exact q5 z (List.mem_of_mem_take hz)
            · exact h4 z hz
            · exact q5 z (List.mem_of_mem_drop hz))
        have hstore := run_storeCells P b' (off + len * s) e' f cvm.toList 0 cur.toList w (by simpa using q2) (by simpa using q3) (by rw [hcm]; simp; omega) (h3.oneCells h4)
        have hstore' : (storeCells ⟨b', off + len * s, none⟩ cvm.toList).run P w = .ok () (w.setRow b' (repl cur.toList (off + len * s) cvm.toList).toArray) := by simpa using hstore
        have hf := h2 w rfl
        refine Good.step (c := .slice (some ⟨b', off, none⟩) (len + m.length) cap) (exec_call2 ho (fun cs => rfl) ?_) (.ref hg hcond.1) hset.1 hset.2
        rw [hxe, hye]
        simp [Builtin.append_, hd2, hts, hts2, run_underlying E.under, run_underlying hd, run_sizeOf_is E.size, h1 w, hf, hcond.1, add_addr, hstore']
      · rw [if_neg hcond] at he; cases he
    · simp [hss] at he
  | _ => simp at he
theorem sound_appz {t t2 : TypeId} {ts : Array TypeId} {x y : Operand} {x' y' : AO} {sz bytes : Nat} {zv : V} {k : IntKind} (ho : o.op = .call { callee := .builtin .append, args := #[x, y], argTypes := ts }) (hts : ts[0]? = some t) (hts2 : ts[1]? = some t2)
    (hE : elemZero P t sz bytes = true) (hz : ∀ e, P.underlying t = some (.slice e) → zeroIs P e zv = true) (hzn : zv.notTup = true) (hk : P.underlying t2 = some (.int k)) (hx : chkO x x' = true) (hy : chkO y y' = true) (hF : FRel g N fr a.tmps) (hW : WRel B g st w)
    (he : evalA (.appz sz bytes zv x' y') fr st = some (v, st')) : Good P B g w o a v st' := by
  simp only [evalA, Option.bind_eq_some_iff] at he
  obtain ⟨p, hp, q, hq, he⟩ := he
  obtain ⟨e, z, E⟩ := elemZero_some hE
  obtain ⟨z', hz1, hz2⟩ := run_zero_is (hz e E.under) w
  have hzz : z' = z := by have := E.zero w; rw [hz1] at this; cases this; rfl
  subst hzz
  have hzr := cv_sound hz2 g
  have hr := chkO_sound hx hF hp
  have hr2 := chkO_sound hy hF hq
  generalize hxe : a.eval x = cx at hr
  generalize hye : a.eval y = cy at hr2
  cases hr with
  | lst hn' hs hone hc himm hl hr' =>
    rename_i s l c base n cap cvs
    subst hn'
    cases hr2 with
    | int kk j =>
      cases kk <;> try (simp at he; done)
      simp only at he
      by_cases hss : s = sz ∧ 0 ≤ j
      · rw [if_pos hss] at he
        obtain ⟨rfl, hj⟩ := hss
        by_cases hcond : (canApp st c = true ∨ (List.replicate j.toNat zv).isEmpty = true) ∧ (l.length + (List.replicate j.toNat zv).length) * bytes ≤ 140737488355328 ∧ l.length + (List.replicate j.toNat zv).length ≤ 140737488355328
        · rw [if_pos hcond] at he
          simp only [Option.some.injEq, Prod.mk.injEq] at he
          obtain ⟨rfl, rfl⟩ := he
          have hjj : j = ((List.replicate j.toNat zv).length : Int) := by simp; omega
          have hzl : zv.cells.length = s := by have := hzr.cells.1; rw [this]; simpa using E.zsize
          have hrep : LR (VRel g) (List.replicate j.toNat zv) (List.replicate j.toNat z') := by
            refine ⟨by simp, fun i v c hv hc => ?_⟩
            rw [List.getElem?_replicate] at hv hc
            split at hv
            · rename_i hlt; rw [if_pos hlt] at hc
              cases hv; cases hc; exact hzr
            · cases hv
          have hflat := hrep.flat
          have hzc : cflat (List.replicate j.toNat z') = (if j.toNat * s = 0 then #[] else Builtin.zeroCells z'.cells j.toNat).toList := by
            have hlen : ∀ n, (cflat (List.replicate n z')).length = n * s := by
              intro n
              induction n with
              | zero => simp [cflat]
              | succ n ih =>
                show (z'.cells.toList ++ cflat (List.replicate n z')).length = _
                rw [List.length_append, ih, Nat.add_mul, Nat.one_mul, Array.length_toList, E.zsize]; omega
            by_cases h0 : j.toNat * s = 0
            · rw [if_pos h0]
              exact List.eq_nil_of_length_eq_zero (by rw [hlen, h0])
            · rw [if_neg h0]
              have hget : ∀ n i, i < n * s → (cflat (List.replicate n z'))[i]? = z'.cells[i % s]? := by
                intro n
                induction n with
                | zero => intro i hi; omega
                | succ n ih =>
                  intro i hi
                  show (z'.cells.toList ++ cflat (List.replicate n z'))[i]? = _
                  rcases Nat.lt_or_ge i s with his | his
                  · rw [List.getElem?_append_left (by simpa [E.zsize] using his), Nat.mod_eq_of_lt his]; simp
                  · rw [List.getElem?_append_right (by simpa [E.zsize] using his), Array.length_toList, E.zsize, ih (i - s) (by rw [Nat.add_mul] at hi; omega)]
                    rw [← Nat.mod_eq_sub_mod his]
              apply List.ext_getElem?
              intro i
              rcases Nat.lt_or_ge i (j.toNat * s) with hi | hi
              · rw [hget _ _ hi]
                simp only [Builtin.zeroCells, E.zsize, Array.toList_map, Array.toList_range, List.getElem?_map, List.getElem?_range hi, Option.map_some]
                have hlt : i % s < z'.cells.size := by rw [E.zsize]; exact Nat.mod_lt _ (Nat.pos_of_ne_zero E.pos)
                rw [getElem!_pos z'.cells _ hlt, getElem?_pos z'.cells _ hlt]
              · rw [List.getElem?_eq_none (by rw [hlen]; exact hi), List.getElem?_eq_none (by simp [Builtin.zeroCells, E.zsize]; exact hi)]
          obtain ⟨g', c', w', hrun, hrel, hW', hS⟩ := append_run (P := P) (ty := o.type) (cy := .int .i64 j) (cvm := (if j.toNat * s = 0 then #[] else Builtin.zeroCells z'.cells j.toNat)) hts hts2 E (.lst rfl hs hone hc himm hl hr') hW hcond.1 hcond.2.1 hcond.2.2
            (.inr ⟨k, hk, by rw [← hjj], by
              have := hcond.2.1
              rw [Nat.add_mul] at this
              omega, by simp⟩) (by rw [← hzc]; exact hflat) (ones_flat hrep (fun v hv => by rw [List.eq_of_mem_replicate hv]; exact hzn)) (fun v hv => by rw [List.eq_of_mem_replicate hv]; exact hzl)
          exact Good.step (c := c') (exec_call2 ho (fun cs => rfl) (by rw [hxe, hye]; exact hrun)) hrel hW' hS
        · rw [if_neg hcond] at he; cases he
      · rw [if_neg hss] at he; cases he
    | _ => simp at he
  | _ => simp at he
theorem sound_cpy {t : TypeId} {ts : Array TypeId} {x y : Operand} {x' y' : AO} {sz : Nat} (ho : o.op = .call { callee := .builtin .copy, args := #[x, y], argTypes := ts }) (hts : ts[0]? = some t)
    (ht : sliceElem P t sz = true) (hx : chkO x x' = true) (hy : chkO y y' = true) (hF : FRel g N fr a.tmps) (hW : WRel B g st w)
    (he : evalA (.cpy sz x' y') fr st = some (v, st')) : Good P B g w o a v st' := by
  simp only [evalA, Option.bind_eq_some_iff] at he
  obtain ⟨p, hp, q, hq, he⟩ := he
  obtain ⟨e, hte, hsz, hsz0⟩ := sliceElem_some ht
  have hr := chkO_sound hx hF hp
  have hr2 := chkO_sound hy hF hq
  generalize hxe : a.eval x = cx at hr
  generalize hye : a.eval y = cy at hr2
  cases hr with
  | ref hg hlc =>
    rename_i s id off len cap b
    by_cases hss : s = sz
    · subst hss
      simp only [if_true, Option.bind_eq_some_iff] at he
      obtain ⟨m, hm, cs, hcs, he⟩ := he
      by_cases hcond : off + (min m.length len) * s ≤ cs.length
      · rw [if_pos hcond] at he
        simp only [Option.some.injEq, Prod.mk.injEq] at he
        obtain ⟨rfl, rfl⟩ := he
        obtain ⟨cvm, h1, h2, h3, h4, h5⟩ := src_cells (P := P) (k := min m.length len) hm hr2 hW (Nat.min_le_left _ _)
        obtain ⟨b', cur, e', f, q1, q2, q3, q4, q5⟩ := hW.cells id cs hcs
        obtain rfl := Option.some.inj (q1.symm.trans hg)
        have hcsz : cs.length = cur.size := by have := q4.1; simpa using this
        have h5' : ∀ e ∈ m.take (min m.length len), e.cells.length = s := fun e he => h5 e (List.mem_of_mem_take he)
        have h4' : ∀ v ∈ flat (m.take (min m.length len)), v.one = true := by
          intro v hv
          rw [flat_take h5] at hv
          exact h4 v (List.mem_of_mem_take hv)
        have hcm : cvm.toList.length = min m.length len * s := by rw [length_cells_of h5' h3.1]; simp
        have hset := hW.setObj (cs' := repl cs off (flat (m.take (min m.length len)))) (cvs := (repl cur.toList off cvm.toList).toArray) hcs q1 q2 q3
          (by simp only [List.size_toArray]; rw [length_repl _ _ _ (by rw [hcm]; simp; omega)]; simp)
          (by simpa using q4.repl h3 _)
          (by
            intro z hz
            simp only [repl, List.mem_append] at hz
            rcases hz with (hz | hz) | hz
            · exact q5 z (List.mem_of_mem_take hz)
            · exact h4' z hz
            · exact q5 z (List.mem_of_mem_drop hz))
        have hstore := run_storeCells P b' off e' f cvm.toList 0 cur.toList w (by simpa using q2) (by simpa using q3) (by rw [hcm]; simp; omega) (h3.oneCells h4')
        have hstore' : (storeCells ⟨b', off, none⟩ cvm.toList).run P w = .ok () (w.setRow b' (repl cur.toList off cvm.toList).toArray) := by simpa using hstore
        have hf := h2 w rfl
        refine Good.step (c := .int .i64 (min m.length len : Nat)) (exec_call2 ho (fun cs => rfl) ?_) (.int _ _) hset.1 hset.2
        rw [hxe, hye]
        have hmin : Nat.min m.length len = min m.length len := rfl
        simp [Builtin.copy_, hts, run_underlying hte, run_sizeOf_is hsz, h1 w, hmin, hf, hstore', goInt]
      · rw [if_neg hcond] at he; cases he
    · simp [hss] at he
  | _ => simp at he
end
end Go.Sim
