/- Merged by a program of mine (pack.py) out of my own texts; what is not used is left out. -/
import Derived.Test.YtffenelcgjdbiaaGreatDoorKOramPlays23
set_option linter.unusedVariables false
set_option linter.unusedSimpArgs false
namespace Go.Sim
open Go
theorem rep_cells {z : Value} {s : Nat} (hz : z.cells.size = s) (hpos : s ≠ 0) (n : Nat) : cflat (List.replicate n z) = ((Array.range (n * s)).map (z.cells[· % z.cells.size]!)).toList := by
  have hlen : ∀ n, (cflat (List.replicate n z)).length = n * s := by
    intro n
    induction n with
    | zero => simp [cflat]
    | succ n ih =>
      show (z.cells.toList ++ cflat (List.replicate n z)).length = _
      rw [List.length_append, ih, Nat.add_mul, Nat.one_mul, Array.length_toList, hz]; omega
  have hget : ∀ n i, i < n * s → (cflat (List.replicate n z))[i]? = z.cells[i % s]? := by
    intro n
    induction n with
    | zero => intro i hi; omega
    | succ n ih =>
      intro i hi
      show (z.cells.toList ++ cflat (List.replicate n z))[i]? = _
      rcases Nat.lt_or_ge i s with his | his
      · rw [List.getElem?_append_left (by simpa [hz] using his), Nat.mod_eq_of_lt his]; simp
      · rw [List.getElem?_append_right (by simpa [hz] using his), Array.length_toList, hz, ih (i - s) (by rw [Nat.add_mul] at hi; omega)]
        rw [← Nat.mod_eq_sub_mod his]
  apply List.ext_getElem?
  intro i
  rcases Nat.lt_or_ge i (n * s) with hi | hi
  · rw [hget _ _ hi]
    simp only [hz, Array.toList_map, Array.toList_range, List.getElem?_map, List.getElem?_range hi, Option.map_some]
    have hlt : i % s < z.cells.size := by rw [hz]; exact Nat.mod_lt _ (Nat.pos_of_ne_zero hpos)
    rw [getElem!_pos z.cells _ hlt, getElem?_pos z.cells _ hlt]
  · rw [List.getElem?_eq_none (by rw [hlen]; exact hi), List.getElem?_eq_none (by simp; exact hi)]
section
variable {P : Program} {B : Env} {g : G} {st st' : St} {w : World} {o : Oper} {a : Act} {N : Nat} {fr : Fr} {v : V}
theorem LR.rep {R : V → Value → Prop} {v : V} {c : Value} (h : R v c) (n : Nat) : LR R (List.replicate n v) (List.replicate n c) := by
  refine ⟨by simp, fun i x y hx hy => ?_⟩
  rw [List.getElem?_replicate] at hx hy
  split at hx
  · rename_i hlt; rw [if_pos hlt] at hy
    cases hx; cases hy; exact h
  · cases hx
theorem flat_rep (v : V) (n : Nat) : flat (List.replicate n v) = (List.replicate n v.cells).flatten := by
  induction n with
  | zero => rfl
  | succ n ih =>
    show v.cells ++ flat (List.replicate n v) = _
    rw [ih]; rfl
theorem sound_mks {t : TypeId} {l c : Operand} {l' c' : AO} {sz bytes : Nat} {zv : V} {mu : Bool} (ho : o.op = .makeSlice t l c) (hE : elemZero P t sz bytes = true) (hz : ∀ e, P.underlying t = some (.slice e) → zeroIs P e zv = true) (hzn : zv.notTup = true)
    (hl : chkO l l' = true) (hc : chkO c c' = true) (hF : FRel g N fr a.tmps) (hW : WRel B g st w)
    (he : evalA (.mks sz bytes zv mu l' c') fr st = some (v, st')) : Good P B g w o a v st' := by
  simp only [evalA, Option.bind_eq_some_iff] at he
  obtain ⟨p, hp, q, hq, he⟩ := he
  obtain ⟨e, z, E⟩ := elemZero_some hE
  obtain ⟨z', hz1, hz2⟩ := run_zero_is (hz e E.under) w
  have hzz : z' = z := by have := E.zero w; rw [hz1] at this; cases this; rfl
  subst hzz
  have hzr := cv_sound hz2 g
  have hr1 := chkO_sound hl hF hp
  have hr2 := chkO_sound hc hF hq
  generalize hle : a.eval l = cl at hr1
  generalize hce : a.eval c = cc at hr2
  cases hr1 with
  | int k1 n =>
    cases hr2 with
    | int k2 k =>
      cases k1 <;> try (simp at he; done)
      cases k2 <;> try (simp at he; done)
      simp only at he
      by_cases hcond : 0 ≤ n ∧ n ≤ k ∧ k * bytes ≤ 140737488355328 ∧ k ≤ 140737488355328
      · rw [if_pos hcond] at he
        obtain ⟨h0, h1, h2, h3⟩ := hcond
        have hzl : zv.cells.length = sz := by have := hzr.cells.1; rw [this]; simpa using E.zsize
        have wn : IntKind.i64.wrap n = n := wrap_i64 (by omega) (by omega)
        have wk : IntKind.i64.wrap k = k := wrap_i64 (by omega) (by omega)
        have hb : ¬ 281474976710656 < (bytes : Int) * k := by rw [Int.mul_comm]; omega
        have hb2 : ¬ k < 0 := by omega
        have hb3 : ¬ n < 0 := by omega
        have hb4 : ¬ k < n := by omega
        obtain ⟨K, rfl⟩ : ∃ K : Nat, k = K := ⟨k.toNat, by omega⟩
        have hrun : ∃ cells : Array Value, cells.toList = cflat (List.replicate K z') ∧ (Instr.makeSlice t (.int .i64 n) (.int .i64 K)).run P w = .ok (.slice (some ⟨w.heap.size, 0, none⟩) n.toNat K) (w.alloc (.cells cells e)) := by
          by_cases hK : K * sz = 0
          · refine ⟨#[], ?_, ?_⟩
            · have hK0 : K = 0 := by
                rcases Nat.mul_eq_zero.1 hK with h | h
                · exact h
                · exact absurd h E.pos
              subst hK0; rfl
            · simp [Instr.makeSlice, run_underlying E.under, asInt, asIntOf, E.info, E.ibytes, wn, wk, hb, hb2, hb3, hb4, run_sizeOf_is E.size, hK, newRow]
              congr 2
              simp [Array.range]
          · refine ⟨_, (rep_cells E.zsize E.pos K).symm, ?_⟩
            simp [Instr.makeSlice, run_underlying E.under, asInt, asIntOf, E.info, E.ibytes, wn, wk, hb, hb2, hb3, hb4, run_sizeOf_is E.size, hK, newRow, E.zero]
        obtain ⟨cells, hcells, hrun⟩ := hrun
        have hexec : (execOp a.eval o).run P w = .ok (.value (.slice (some ⟨w.heap.size, 0, none⟩) n.toNat K)) (w.alloc (.cells cells e)) := by
          simp [execOp, ho, hle, hce, hrun]
        have hrep := (LR.rep hzr K).flat
        have hones := ones_flat (LR.rep hzr K) (fun v hv => by rw [List.eq_of_mem_replicate hv]; exact hzn)
        cases mu with
        | true =>
          simp only [if_true, Option.some.injEq, Prod.mk.injEq] at he
          obtain ⟨rfl, rfl⟩ := he
          simp only [Int.toNat_natCast] at *
          rw [flat_rep] at hrep hones
          have hn := hW.newObj (cs := (List.replicate K zv.cells).flatten) (cvs := cells) e (by rw [hcells]; exact hrep) hones
          exact Good.step hexec (.ref (by simp) (by omega)) hn.1 hn.2
        | false =>
          simp only [Bool.false_eq_true, if_false] at he
          split at he
          · rename_i hnk
            simp only [Option.some.injEq, Prod.mk.injEq] at he
            obtain ⟨rfl, rfl⟩ := he
            subst hnk
            simp only [Int.toNat_natCast] at *
            have hn := hW.newImm cells e (K * sz)
            have htake : cells.toList.take (K * sz) = cells.toList := by
              rw [List.take_of_length_le]
              rw [hcells, ← hrep.1, flat_length (sz := sz) (fun e he => by rw [List.eq_of_mem_replicate he]; exact hzl)]
              simp
            rw [htake] at hn
            have hrep' := hrep.mono hn.2.le
            rw [← hcells] at hrep'
            refine Good.step hexec ?_ hn.1 hn.2
            rw [← List.map_replicate]
            refine VRel.dwk ?_
            have := VRel.lst (g := g.withImm w.heap.size cells.toList) (sz := sz) (l := List.replicate K zv) (c := .exact) (base := some ⟨w.heap.size, 0, none⟩) (n := K) (cap := K) (cvs := cells.toList) (by simp)
              (fun e he => by rw [List.eq_of_mem_replicate he]; exact hzl) hones ⟨⟨_, _, rfl, by have := hW.base; have := hW.lo; show g.lo ≤ _; omega⟩, rfl⟩ (ImmB.withImm g _ _) hrep'.1 hrep'.2
            exact this
          · cases he
      · rw [if_neg hcond] at he; cases he
    | _ => cases k1 <;> simp at he
  | _ => simp at he
theorem flat_map_int (s : List UInt8) : flat (s.map fun c => V.int .u8 c.toNat) = s.map fun c => V.int .u8 c.toNat := by
  induction s with
  | nil => rfl
  | cons c s ih =>
    show [V.int .u8 c.toNat] ++ flat (s.map fun c => V.int .u8 c.toNat) = _
    rw [ih]; rfl
theorem sound_s2b {s d e : TypeId} {x : Operand} {x' : AO} (ho : o.op = .convert s d x) (hx : chkO x x' = true) (hd : P.underlying d = some (.slice e)) (hs : P.underlying s = some .string) (hu : P.underlying e = some (.int .u8)) (hF : FRel g N fr a.tmps) (hW : WRel B g st w)
    (he : evalA (.s2b x') fr st = some (v, st')) : Good P B g w o a v st' := by
  simp only [evalA, Option.bind_eq_some_iff] at he
  obtain ⟨u, hxu, he⟩ := he
  have hr := chkO_sound hx hF hxu
  generalize hxe : a.eval x = cx at hr
  cases hr with
  | str hstr =>
    rename_i l b
    by_cases hlen : l.length ≤ 140737488355328
    · simp only [if_pos hlen, Option.some.injEq, Prod.mk.injEq] at he
      obtain ⟨rfl, rfl⟩ := he
      have hbs : b.size = l.length := by rw [← hstr, Array.length_toList]; rfl
      obtain ⟨nc, hncd⟩ : ∃ nc, nc = (Question.appendCap b.size 0 e).cut (w.tape w.drawn (Question.appendCap b.size 0 e)) := ⟨_, rfl⟩
      have hnc : b.size ≤ nc := by rw [hncd]; simp [Question.cut]
      have hfor : (Question.appendCap b.size 0 e).forced = false := rfl
      let cvs : Array Value := (b.data.map fun c => Value.int .u8 c.toNat) ++ Array.replicate (nc - b.size) (.int .u8 0)
      have hcsz : cvs.size = nc := by
        simp only [cvs, Array.size_append, Array.size_map, Array.size_replicate]
        have : b.data.size = b.size := rfl
        omega
      have hfr : Free (cvs.size, cvs.size + 1) cvs.size := .inr (Nat.le_refl _)
      have hn := hW.drew.newTokF cvs e l.length (cvs.size, cvs.size + 1) hfr
      have htake : cvs.toList.take l.length = l.map fun c => Value.int .u8 c.toNat := by
        simp only [cvs, Array.toList_append, Array.toList_map]
        rw [List.take_append_of_le_length (by simp [hstr]), List.take_of_length_le (by simp [hstr]), hstr]
      rw [htake] at hn
      refine Good.step (c := .slice (some ⟨w.heap.size, 0, none⟩) l.length nc) (w' := w.drew.alloc (.cells cvs e (cvs.size, cvs.size + 1))) ?_ ?_ hn.1 ((Step.drew g w).trans hn.2)
      · have hfz : ((w.drew).alloc (.cells cvs e)).freeze ⟨w.heap.size, cvs.size, none⟩ 1 = w.drew.alloc (.cells cvs e (cvs.size, cvs.size + 1)) := by
          have hsz : w.drew.heap.size = w.heap.size := rfl
          simp only [World.freeze, World.alloc]
          rw [if_neg (by omega)]
          congr 1
          apply Array.ext_getElem?
          intro i
          rw [Array.getElem?_modify, Array.getElem?_push, Array.getElem?_push]
          by_cases hi : w.heap.size = i
          · subst hi; simp [hsz]
          · rw [if_neg hi]
            have : ¬ i = w.drew.heap.size := by rw [hsz]; exact fun h => hi h.symm
            rw [if_neg this, if_neg this]
        have hshape : ((w.drew).alloc (.cells cvs e)).shape? w.heap.size = some (e, cvs.size) := by
          have := alloc_new w.drew (.cells cvs e)
          have hsz : w.drew.heap.size = w.heap.size := rfl
          rw [hsz] at this
          simp only [World.shape?, this]
        have hch : (choose (.appendCap b.size 0 e)).run P w = .ok nc w.drew := by rw [run_choose, hfor, ← hncd]; rfl
        have hrow : (newRow e cvs).run P w.drew = .ok ⟨w.heap.size, 0, none⟩ (w.drew.alloc (.cells cvs e)) := rfl
        have hmark : (markStringish ⟨w.heap.size, 0, none⟩).run P (w.drew.alloc (.cells cvs e)) = .ok () (w.drew.alloc (.cells cvs e (cvs.size, cvs.size + 1))) := by
          unfold markStringish
          rw [Sem.run_bind, run_shape, Result.andThen_ok, hshape]
          simp only [run_freeze, hfz]
        have hall : (Conv.stringToBytes e b).run P w = .ok (.slice (some ⟨w.heap.size, 0, none⟩) b.size nc) (w.drew.alloc (.cells cvs e (cvs.size, cvs.size + 1))) := by
          unfold Conv.stringToBytes
          rw [Sem.run_bind, hch, Result.andThen_ok]
          simp only
          rw [Sem.run_bind, hrow, Result.andThen_ok, Sem.run_bind, hmark, Result.andThen_ok, Sem.run_pure]
        simp only [execOp, ho, hxe, Sem.run_bind, convert, run_underlying hs, run_underlying hd, run_underlying hu, Result.andThen_ok, hall, hbs, Sem.run_pure]
      · refine .lst (cvs := l.map fun c => Value.int .u8 c.toNat) (by simp) ?_ ?_ ?_ ?_ ?_ ?_
        · intro e he; simp only [List.mem_map] at he; obtain ⟨c, _, rfl⟩ := he; rfl
        · rw [flat_map_int]; intro v hv; simp only [List.mem_map] at hv; obtain ⟨c, _, rfl⟩ := hv; rfl
        · refine ⟨w.heap.size, 0, cvs.size, rfl, ?_, by omega, by omega, by have := hW.base; have := hW.lo; show g.lo ≤ _; omega⟩
          simp
        · intro j c hj
          exact ⟨w.heap.size, 0, rfl, by simpa [G.withImm] using hj⟩
        · rw [flat_map_int]; simp
        · rw [flat_map_int]
          intro i v c hv hc
          rw [List.getElem?_map] at hv hc
          cases hl : l[i]? with
          | none => rw [hl] at hv; cases hv
          | some u =>
            rw [hl] at hv hc
            cases hv; cases hc
            exact .int _ _
    · simp only [if_neg hlen] at he; cases he
  | _ => simp at he
end
end Go.Sim
