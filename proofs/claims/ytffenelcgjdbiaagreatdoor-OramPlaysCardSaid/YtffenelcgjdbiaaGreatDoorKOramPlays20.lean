/- Merged by a program of mine (pack.py) out of my own texts; what is not used is left out. -/
import Derived.Test.YtffenelcgjdbiaaGreatDoorKOramPlays19
set_option linter.unusedVariables false
set_option linter.unusedSimpArgs false
namespace Go.Sim
open Go
theorem repl_repl {α : Type} (l : List α) (k : Nat) (x y : List α) (h : k + x.length + y.length ≤ l.length) : repl (repl l k x) (k + x.length) y = repl l k (x ++ y) := by
  apply List.ext_getElem?
  intro i
  have h1 : k + x.length ≤ l.length := by omega
  rw [getElem?_repl _ _ _ (by rw [length_repl _ _ _ h1]; omega), getElem?_repl _ _ _ h1, getElem?_repl _ _ _ (by simp; omega)]
  simp only [List.length_append, List.getElem?_append]
  by_cases c1 : k + x.length ≤ i ∧ i < k + x.length + y.length
  · rw [if_pos c1, if_pos (by omega), if_neg (by omega)]
    congr 1; omega
  · rw [if_neg c1]
    by_cases c2 : k ≤ i ∧ i < k + x.length
    · rw [if_pos c2, if_pos (by omega), if_pos (by omega)]
    · rw [if_neg c2, if_neg (by omega)]
def cflat (l : List Value) : List Value := l.flatMap fun c => c.cells.toList
theorem LR.flat {g : G} : ∀ {l : List V} {m : List Value}, LR (VRel g) l m → LR (VRel g) (Sim.flat l) (cflat m)
  | [], m, h => by rw [h.nil_left]; exact LR.nil
  | v :: l, m, h => by
    obtain ⟨c, m', rfl, h1, h2⟩ := h.cons_left
    have ih := LR.flat h2
    show LR (VRel g) (v.cells ++ Sim.flat l) (c.cells.toList ++ cflat m')
    exact h1.cells.append ih
theorem ones_flat {g : G} : ∀ {l : List V} {m : List Value}, LR (VRel g) l m → (∀ v ∈ l, v.notTup = true) → ∀ v ∈ Sim.flat l, v.one = true
  | [], m, h, _ => by simp [Sim.flat]
  | v :: l, m, h, hn => by
    obtain ⟨c, m', rfl, h1, h2⟩ := h.cons_left
    intro x hx
    have hx' : x ∈ v.cells ++ Sim.flat l := hx
    rcases List.mem_append.1 hx' with hx | hx
    · exact h1.ones (hn v (by simp)) x hx
    · exact ones_flat h2 (fun y hy => hn y (by simp [hy])) x hx
section
variable {P : Program} {B : Env} {g : G} {st st' : St} {w : World} {o : Oper} {a : Act} {N : Nat} {fr : Fr} {v : V}
def chkLits : Nat → List (Nat × Operand) → List AO → Bool
  | _, [], [] => true
  | k, (i, x) :: r, y :: s => i == k && chkO x y && chkLits (k + 1) r s
  | _, _, _ => false
theorem fill_lits (sz : Nat) : ∀ {ps : List (Nat × Operand)} {qs : List AO} {vs : List V} {k : Nat} {cells : Array Value},
    chkLits k ps qs = true → FRel g N fr a.tmps → evalOs fr qs = some vs → (∀ v ∈ vs, v.cells.length = sz) → k * sz + vs.length * sz ≤ cells.size →
    ∃ cells', Instr.fill (fun i => some (i * sz, sz)) cells (ps.map fun p => (p.1, a.eval p.2)) = some cells' ∧ cells'.toList = repl cells.toList (k * sz) (cflat (ps.map fun p => a.eval p.2)) ∧
      LR (VRel g) vs (ps.map fun p => a.eval p.2) := by
  intro ps
  induction ps with
  | nil =>
    intro qs vs k cells hc hF hv hs hsz
    cases qs with
    | nil => simp [evalOs] at hv; subst hv; exact ⟨cells, rfl, by simp [cflat, repl_nil], LR.nil⟩
    | cons => simp [chkLits] at hc
  | cons p ps ih =>
    intro qs vs k cells hc hF hv hs hsz
    obtain ⟨i, x⟩ := p
    cases qs with
    | nil => simp [chkLits] at hc
    | cons y qs =>
      simp only [chkLits, Bool.and_eq_true, beq_iff_eq] at hc
      obtain ⟨⟨rfl, hx⟩, hc⟩ := hc
      simp only [evalOs, Option.bind_eq_some_iff, Option.some.injEq] at hv
      obtain ⟨u, hu, us, hus, rfl⟩ := hv
      have hr := chkO_sound hx hF hu
      have hul := hs u (by simp)
      have hcsz : (a.eval x).cells.size = sz := by have := hr.cells.1; simp at this; omega
      simp only [List.length_cons, Nat.add_mul, Nat.one_mul] at hsz
      have hfold := fill_fold (a.eval x).cells.toList (i * sz) 0 cells (by simp; omega)
      have hfold' : ((a.eval x).cells.zipIdx.foldl (fun cs (x : Value × Nat) => cs.setIfInBounds (i * sz + x.2) x.1) cells).toList = repl cells.toList (i * sz) (a.eval x).cells.toList := by
        rw [← Array.foldl_toList, Array.toList_zipIdx]
        simpa using hfold
      have hsize : ((a.eval x).cells.zipIdx.foldl (fun cs (x : Value × Nat) => cs.setIfInBounds (i * sz + x.2) x.1) cells).size = cells.size := by
        rw [← Array.length_toList, hfold', length_repl _ _ _ (by simp; omega)]; simp
      obtain ⟨cells', hfill, hl', hlr⟩ := ih (k := i + 1) (cells := (a.eval x).cells.zipIdx.foldl (fun cs (x : Value × Nat) => cs.setIfInBounds (i * sz + x.2) x.1) cells) hc hF hus (fun v hv => hs v (by simp [hv])) (by rw [hsize, Nat.add_mul, Nat.one_mul]; omega)
      refine ⟨cells', ?_, ?_, LR.cons hr hlr⟩
      · simp only [List.map_cons, Instr.fill]
        have hfit : ¬ ((a.eval x).cells.size ≠ sz ∨ i * sz + (a.eval x).cells.size > cells.size) := by omega
        simp only [hfit, Bool.or_eq_true, decide_eq_true_eq, if_false]
        exact hfill
      · rw [hl', hfold']
        have hlen : (cflat (ps.map fun p => a.eval p.2)).length = us.length * sz := by
          rw [← hlr.flat.1, flat_length (fun v hv => hs v (by simp [hv]))]
        have := repl_repl cells.toList (i * sz) (a.eval x).cells.toList (cflat (ps.map fun p => a.eval p.2)) (by rw [hlen]; simp; omega)
        rw [show (i + 1) * sz = i * sz + (a.eval x).cells.toList.length by simp [hcsz, Nat.add_mul]]
        rw [this]
        rfl
theorem repl_all {α : Type} (l vs : List α) (h : vs.length = l.length) : repl l 0 vs = vs := by
  simp [repl, h]
theorem sound_lits {t : TypeId} {n : Nat} {ps : Array (Nat × Operand)} {qs : List AO} {sz : Nat} (ho : o.op = .buildSlice t n ps) (ht : sliceElem P t sz = true) (hz : ∀ e, P.underlying t = some (.slice e) → ∃ i z, P.info? e = some i ∧ i.zero = some z ∧ z.cells.size = sz)
    (hc : chkLits 0 ps.toList qs = true) (hn : n = qs.length) (hbig : n * sz ≤ 2 ^ 24) (hF : FRel g N fr a.tmps) (hW : WRel B g st w)
    (he : evalA (.lits sz qs) fr st = some (v, st')) : Good P B g w o a v st' := by
  simp only [evalA, Option.bind_eq_some_iff] at he
  obtain ⟨vs, hvs, he⟩ := he
  split at he
  · rename_i hall
    simp only [Option.some.injEq, Prod.mk.injEq] at he
    obtain ⟨rfl, rfl⟩ := he
    simp only [List.all_eq_true, Bool.and_eq_true, beq_iff_eq] at hall
    obtain ⟨e, hte, hsz, hsz0⟩ := sliceElem_some ht
    obtain ⟨i, z, hi, hiz, hzs⟩ := hz e hte
    have hvl : vs.length = qs.length := by
      have : ∀ {qs : List AO} {vs : List V}, evalOs fr qs = some vs → vs.length = qs.length := by
        intro qs
        induction qs with
        | nil => intro vs h; simp [evalOs] at h; subst h; rfl
        | cons q qs ih =>
          intro vs h
          simp only [evalOs, Option.bind_eq_some_iff, Option.some.injEq] at h
          obtain ⟨_, _, us, hus, rfl⟩ := h
          simp [ih hus]
      exact this hvs
    obtain ⟨cells', hfill, hl', hlr⟩ := fill_lits (a := a) sz (k := 0) (cells := (Array.range (n * sz)).map fun j => ((if n * sz = 0 then #[] else z.cells)[j % (if n * sz = 0 then #[] else z.cells).size]!)) hc hF hvs (fun v hv => (hall v hv).1) (by simp [hn, hvl])
    have hflen : (cflat (ps.toList.map fun p => a.eval p.2)).length = n * sz := by
      rw [← hlr.flat.1, flat_length (fun v hv => (hall v hv).1), hvl, hn]
    have hl2 : cells'.toList = cflat (ps.toList.map fun p => a.eval p.2) := by
      rw [hl', Nat.zero_mul, repl_all _ _ (by rw [hflen]; simp)]
    have hnew := hW.newImm cells' e (n * sz)
    have htake : cells'.toList.take (n * sz) = cells'.toList := by rw [List.take_of_length_le]; rw [hl2, hflen]; exact Nat.le_refl _
    rw [htake] at hnew
    have le := hnew.2.le
    refine Good.step (c := .slice (some ⟨w.heap.size, 0, none⟩) n n) ?_ ?_ hnew.1 hnew.2
    · have hpl : (ps.map fun p => (p.1, a.eval p.2)).toList = ps.toList.map fun p => (p.1, a.eval p.2) := by simp
      have hnb : ¬ n * sz > 2 ^ 24 := by omega
      by_cases h0 : n * sz = 0
      · rw [if_pos h0] at hfill
        simp only [execOp, ho, Sem.run_bind, Instr.buildSlice, run_underlying hte, Result.andThen_ok, run_sizeOf_is hsz, hnb, if_false, Sem.run_pure, hpl]
        rw [if_pos h0]
        simp only [Sem.run_pure, Sem.run_bind, Result.andThen_ok]
        rw [hfill]
        simp [newRow]
      · rw [if_neg h0] at hfill
        have hzr : ∀ w, (zeroValue e).run P w = .ok z w := fun w => by simp [zeroValue, typeInfo, hi, hiz]
        simp only [execOp, ho, Sem.run_bind, Instr.buildSlice, run_underlying hte, Result.andThen_ok, run_sizeOf_is hsz, hnb, if_false, Sem.run_pure, hpl]
        rw [if_neg h0]
        simp only [Sem.run_pure, Sem.run_bind, Result.andThen_ok, hzr]
        rw [hfill]
        simp [newRow]
    · refine VRel.dwk ?_
      refine .lst (cvs := cells'.toList) (by rw [hn, hvl]) (fun v hv => (hall v hv).1) (ones_flat hlr fun v hv => (hall v hv).2) ?_ ?_ ?_ ?_
      · exact ⟨⟨w.heap.size, 0, rfl, by have := hW.base; have := hW.lo; show g.lo ≤ _; omega⟩, by rw [hn]⟩
      · exact ImmB.withImm g w.heap.size cells'.toList
      · have := (hlr.mono le).flat.1; rw [← hl2] at this; exact this
      · have := (hlr.mono le).flat.2; rw [← hl2] at this; exact this
  · cases he
end
end Go.Sim
