/- Merged by a program of mine (pack.py) out of my own texts; what is not used is left out. -/
import Derived.Test.YtffenelcgjdbiaaGreatDoorKOramPlays15
set_option linter.unusedVariables false
set_option linter.unusedSimpArgs false
namespace Go.Sim
open Go
section
variable {P : Program} {B : Env} {g : G} {st st' : St} {w : World} {o : Oper} {a : Act} {N : Nat} {fr : Fr} {v : V}
theorem sound_mv {x : Operand} {y : AO} (ho : o.op = .move x ∨ o.op = .assign x) (hc : chkO x y = true) (hF : FRel g N fr a.tmps) (hW : WRel B g st w)
    (he : evalA (.mv y) fr st = some (v, st')) : Good P B g w o a v st' := by
  simp only [evalA, Option.bind_eq_some_iff, Option.some.injEq, Prod.mk.injEq] at he
  obtain ⟨u, hu, rfl, rfl⟩ := he
  refine Good.pure hW (c := a.eval x) ?_ (chkO_sound hc hF hu)
  rcases ho with ho | ho <;> simp [execOp, ho]
theorem sound_pick {x y z : Operand} {x' y' z' : AO} (ho : o.op = .pick x y z) (hx : chkO x x' = true) (hy : chkO y y' = true) (hz : chkO z z' = true) (hF : FRel g N fr a.tmps) (hW : WRel B g st w)
    (he : evalA (.pick x' y' z') fr st = some (v, st')) : Good P B g w o a v st' := by
  simp only [evalA, Option.bind_eq_some_iff] at he
  obtain ⟨u, hu, he⟩ := he
  have hr := chkO_sound hx hF hu
  generalize hxe : a.eval x = cx at hr
  cases hr with
  | bool b =>
    simp only [Option.bind_eq_some_iff, Option.some.injEq, Prod.mk.injEq] at he
    obtain ⟨u', hu', rfl, rfl⟩ := he
    cases b
    · exact Good.pure hW (c := a.eval z) (by simp [execOp, ho, hxe, asBool]) (chkO_sound hz hF hu')
    · exact Good.pure hW (c := a.eval y) (by simp [execOp, ho, hxe, asBool]) (chkO_sound hy hF hu')
  | _ => simp at he
theorem Good.step {c : Value} {g' : G} {w' : World} (h : (execOp a.eval o).run P w = .ok (.value c) w') (hr : VRel g' v c) (hW : WRel B g' st' w') (hs : Step g w g' w') : Good P B g w o a v st' :=
  ⟨.value c, g', c, w', h, rfl, hr, hW, hs⟩
def zcs (P : Program) (t : TypeId) (z : List V) : Bool := match P.info? t with | some i => (match i.zero with | some v => cvs z v.cells.toList | none => false) | none => false
theorem run_zero_cells {P : Program} {t : TypeId} {z : List V} (h : zcs P t z = true) (w : World) : ∃ c, (zeroValue t).run P w = .ok c w ∧ cvs z c.cells.toList = true := by
  unfold zcs at h
  split at h
  · rename_i i hi
    split at h
    · rename_i v hv
      exact ⟨v, by simp [zeroValue, typeInfo, hi, hv], h⟩
    · cases h
  · cases h
theorem sound_alloc {t : TypeId} {z : List V} (ho : o.op = .alloc t) (hz : zcs P t z = true) (hW : WRel B g st w)
    (he : evalA (.alloc z) fr st = some (v, st')) : Good P B g w o a v st' := by
  simp only [evalA, Option.some.injEq, Prod.mk.injEq] at he
  obtain ⟨rfl, rfl⟩ := he
  obtain ⟨c, hr, hcv⟩ := run_zero_cells hz w
  have hl := cvs_sound hcv g
  have hn := hW.newObj (cvs := c.cells) t hl.1 hl.2
  exact Good.step (c := .pointer (some ⟨w.heap.size, 0, none⟩)) (by simp [execOp, ho, Instr.alloc, hr, newVar, newRow]) (.ptr (by simp)) hn.1 hn.2
theorem sound_box {t : TypeId} {x : Operand} {x' : AO} (ho : o.op = .box t x) (hx : chkO x x' = true) (hF : FRel g N fr a.tmps) (hW : WRel B g st w)
    (he : evalA (.box x') fr st = some (v, st')) : Good P B g w o a v st' := by
  simp only [evalA, Option.bind_eq_some_iff] at he
  obtain ⟨u, hu, he⟩ := he
  split at he
  · rename_i ht
    simp only [Option.some.injEq, Prod.mk.injEq] at he
    obtain ⟨rfl, rfl⟩ := he
    have hr := chkO_sound hx hF hu
    have hn := hW.newObj (cvs := (a.eval x).cells) t hr.cells (hr.ones ht)
    exact Good.step (c := .pointer (some ⟨w.heap.size, 0, none⟩)) (by simp [execOp, ho, Instr.box, newVar, newRow]) (.ptr (by simp)) hn.1 hn.2
  · cases he
theorem aggOr_sound {agg : Bool} {cs : List V} {m : List Value} {u : V} (h : aggOr agg cs = some u) (hl : LR (VRel g) cs m) (ho : ∀ v ∈ cs, v.one = true) :
    (agg = true → VRel g u (.agg m.toArray)) ∧ (agg = false → ∃ c, m[0]? = some c ∧ VRel g u c) := by
  cases agg
  · simp only [aggOr, Bool.false_eq_true, if_false] at h
    exact ⟨by simp, fun _ => hl.get h⟩
  · simp only [aggOr, if_true, Option.some.injEq] at h
    subst h
    exact ⟨fun _ => .agg ho hl.1 hl.2, by simp⟩
theorem run_loadCells' {b off n : Nat} {cs : List Value} (hn : cs.length = n) (h : ∀ (j : Nat) c, cs[j]? = some c → w.cell? ⟨b, off + j, none⟩ = some c) :
    (loadCells ⟨b, off, none⟩ n).run P w = .ok cs.toArray w := by
  have := run_loadCells_list (P := P) (w := w) ⟨b, off, none⟩ cs (by
    intro j v hj
    have := h j v hj
    simp only [Addr.add]
    split
    · rename_i h0; subst h0; simpa using this
    · exact this)
  rw [← hn]; exact this
theorem run_loadVar_of {t : TypeId} {agg : Bool} {b off n : Nat} {cs : List V} {m : List Value} {u : V} (hagg : aggIs P t agg = true) (hsz : szIs P t n = true)
    (hn : cs.length = n) (hl : LR (VRel g) cs m) (ho : ∀ v ∈ cs, v.one = true) (hm : ∀ (j : Nat) c, m[j]? = some c → w.cell? ⟨b, off + j, none⟩ = some c) (h : aggOr agg cs = some u) :
    ∃ c, (loadVar t ⟨b, off, none⟩).run P w = .ok c w ∧ VRel g u c := by
  have hk := aggOr_sound h hl ho
  cases agg
  · obtain ⟨c, hc, hr⟩ := hk.2 rfl
    refine ⟨c, ?_, hr⟩
    have := hm 0 c hc
    rw [Nat.add_zero] at this
    simp [loadVar, run_isAgg_is hagg, run_load, this]
  · refine ⟨_, ?_, hk.1 rfl⟩
    have := run_loadCells' (P := P) (w := w) (b := b) (off := off) (n := n) (cs := m) (by rw [← hl.1]; exact hn) hm
    simp [loadVar, run_isAgg_is hagg, run_sizeOf_is hsz, this]
theorem sound_ld {t : TypeId} {x : Operand} {x' : AO} {n : Nat} {agg : Bool} (ho : o.op = .load t x) (hx : chkO x x' = true) (hagg : aggIs P t agg = true) (hsz : szIs P t n = true)
    (hF : FRel g N fr a.tmps) (hW : WRel B g st w) (he : evalA (.ld n agg x') fr st = some (v, st')) : Good P B g w o a v st' := by
  simp only [evalA, Option.bind_eq_some_iff] at he
  obtain ⟨u, hu, he⟩ := he
  have hr := chkO_sound hx hF hu
  generalize hxe : a.eval x = cx at hr
  cases hr with
  | ptr hg =>
    rename_i id off b
    simp only [Option.bind_eq_some_iff] at he
    obtain ⟨cs, hcs, he⟩ := he
    by_cases hle : off + n ≤ cs.length
    · rw [if_pos hle] at he
      simp only [Option.bind_eq_some_iff, Option.some.injEq, Prod.mk.injEq] at he
      obtain ⟨u, hag, rfl, rfl⟩ := he
      obtain ⟨b', cvs, e, f, h1, h2, h3, h4, h5⟩ := hW.cells id cs hcs
      obtain rfl : b' = b := Option.some.inj (h1.symm.trans hg)
      obtain ⟨c, hrun, hrel⟩ := run_loadVar_of (P := P) (w := w) (b := b') (off := off) hagg hsz (by simp; omega) ((h4.drop off).take n) (fun v hv => h5 v (List.mem_of_mem_drop (List.mem_of_mem_take hv)))
        (by
          intro j c hj
          rw [List.getElem?_take] at hj
          split at hj
          · rw [List.getElem?_drop] at hj
            simp only [World.cell?, h2]
            simpa using hj
          · cases hj) hag
      exact Good.pure hW (c := c) (by simp [execOp, ho, hxe, Instr.loadAt, Instr.sureAddr, hrun]) hrel
    · rw [if_neg hle] at he; cases he
  | ep ho' hi hl hr' =>
    rename_i cs b off cvs
    by_cases hle : n ≤ cs.length
    · simp only [if_pos hle] at he
      simp only [Option.bind_eq_some_iff, Option.some.injEq, Prod.mk.injEq] at he
      obtain ⟨u, hag, rfl, rfl⟩ := he
      have hlr : LR (VRel g) cs cvs := ⟨hl, hr'⟩
      obtain ⟨c, hrun, hrel⟩ := run_loadVar_of (P := P) (w := w) (b := b) (off := off) hagg hsz (by simp; omega) (hlr.take n) (fun v hv => ho' v (List.mem_of_mem_take hv))
        (by
          intro j c hj
          rw [List.getElem?_take] at hj
          split at hj
          · obtain ⟨b2, o2, hb, himm⟩ := hi j c hj
            simp only [Option.some.injEq, Addr.mk.injEq] at hb
            obtain ⟨rfl, rfl, _⟩ := hb
            exact hW.imm _ _ _ himm
          · cases hj) hag
      exact Good.pure hW (c := c) (by simp [execOp, ho, hxe, Instr.loadAt, Instr.sureAddr, hrun]) hrel
    · simp only [if_neg hle] at he; cases he
  | _ => simp at he
theorem sound_sto {t : TypeId} {x y : Operand} {x' y' : AO} {n : Nat} (ho : o.op = .store t x y) (hx : chkO x x' = true) (hy : chkO y y' = true) (hsz : szIs P t n = true)
    (hF : FRel g N fr a.tmps) (hW : WRel B g st w) (he : evalA (.sto n x' y') fr st = some (v, st')) : Good P B g w o a v st' := by
  simp only [evalA, Option.bind_eq_some_iff] at he
  obtain ⟨u, hu, u2, hu2, he⟩ := he
  have hr := chkO_sound hx hF hu
  have hr2 := chkO_sound hy hF hu2
  generalize hxe : a.eval x = cx at hr
  generalize hye : a.eval y = cy at hr2
  cases hr with
  | ptr hg =>
    rename_i id off b
    simp only [Option.bind_eq_some_iff] at he
    obtain ⟨cs, hcs, he⟩ := he
    by_cases hle : u2.cells.length = n ∧ u2.notTup = true ∧ off + n ≤ cs.length
    · rw [if_pos hle] at he
      obtain ⟨hlen, hnt, hfit⟩ := hle
      simp only [Option.some.injEq, Prod.mk.injEq] at he
      obtain ⟨rfl, rfl⟩ := he
      obtain ⟨b', cur, e, f, h1, h2, h3, h4, h5⟩ := hW.cells id cs hcs
      obtain rfl : b' = b := Option.some.inj (h1.symm.trans hg)
      have hcl := hr2.cells
      have hone := hr2.ones hnt
      have hcsz : cs.length = cur.size := by have := h4.1; simpa using this
      have hcn : cy.cells.toList.length = n := by rw [← hcl.1]; exact hlen
      have hset := hW.setObj (cs' := repl cs off u2.cells) (cvs := (repl cur.toList off cy.cells.toList).toArray) hcs h1 h2 h3
        (by simp only [List.size_toArray]; rw [length_repl _ _ _ (by simp at hcn ⊢; omega)]; simp)
        (by simpa using h4.repl hcl off)
        (by
          intro z hz
          simp only [repl, List.mem_append] at hz
          rcases hz with (hz | hz) | hz
          · exact h5 z (List.mem_of_mem_take hz)
          · exact hone z hz
          · exact h5 z (List.mem_of_mem_drop hz))
      have hstore := run_storeCells P b' off e f cy.cells.toList 0 cur.toList w (by simpa using h2) (by simpa using h3) (by simp at hcn ⊢; omega) (hcl.oneCells hone)
      refine ⟨.skip, g, undef, _, ?_, rfl, .tup (by simp) (fun i v c hi => by simp at hi), hset.1, hset.2⟩
      have hz : cy.cells.size = n := by simpa using hcn
      simp [execOp, ho, hxe, hye, Instr.storeAt, Instr.sureAddr, storeVar, run_sizeOf_is hsz, hz]
      have hstore' : (storeCells ⟨b', off, none⟩ cy.cells.toList).run P w = .ok () (w.setRow b' (repl cur.toList off cy.cells.toList).toArray) := by simpa using hstore
      rw [hstore']; rfl
    · rw [if_neg hle] at he; cases he
  | _ => simp at he
theorem sound_nilc {x : Operand} {x' : AO} (ho : o.op = .nilCheck x) (hx : chkO x x' = true) (hF : FRel g N fr a.tmps) (hW : WRel B g st w)
    (he : evalA (.nilc x') fr st = some (v, st')) : Good P B g w o a v st' := by
  simp only [evalA, Option.bind_eq_some_iff] at he
  obtain ⟨u, hu, he⟩ := he
  have hr := chkO_sound hx hF hu
  generalize hxe : a.eval x = cx at hr
  cases hr with
  | ptr hg =>
    simp at he; obtain ⟨rfl, rfl⟩ := he
    exact Good.pure hW (by simp [execOp, ho, hxe]) (.ptr hg)
  | ep ho' hi hl hr' =>
    simp at he; obtain ⟨rfl, rfl⟩ := he
    exact Good.pure hW (by simp [execOp, ho, hxe]) (.ep ho' hi hl hr')
  | fn hl hr' =>
    simp at he; obtain ⟨rfl, rfl⟩ := he
    exact Good.pure hW (by simp [execOp, ho, hxe]) (.fn hl hr')
  | _ => simp at he
theorem sound_bin {op : BinOp} {t u : TypeId} {x y : Operand} {x' y' : AO} (ho : o.op = .binOp op t x y u) (hx : chkO x x' = true) (hy : chkO y y' = true) (hF : FRel g N fr a.tmps) (hW : WRel B g st w)
    (he : evalA (.bin op x' y') fr st = some (v, st')) : Good P B g w o a v st' := by
  simp only [evalA, Option.bind_eq_some_iff, Option.some.injEq, Prod.mk.injEq] at he
  obtain ⟨p, hp, q, hq, r, hr, rfl, rfl⟩ := he
  obtain ⟨c, hrun, hrel⟩ := binV_sound (P := P) (t := t) (g := g) hr (chkO_sound hx hF hp) (chkO_sound hy hF hq) x y w
  exact Good.pure hW (c := c) (by simp only [execOp, ho, Sem.run_bind, hrun]; rfl) hrel
end
end Go.Sim
