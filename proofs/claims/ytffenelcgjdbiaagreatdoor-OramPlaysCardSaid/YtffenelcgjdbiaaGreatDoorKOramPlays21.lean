/- Merged by a program of mine (pack.py) out of my own texts; what is not used is left out. -/
import Derived.Test.YtffenelcgjdbiaaGreatDoorKOramPlays20
set_option linter.unusedVariables false
set_option linter.unusedSimpArgs false
namespace Go.Sim
open Go
section
variable {P : Program} {B : Env} {g : G} {st st' : St} {w : World} {o : Oper} {a : Act} {N : Nat} {fr : Fr} {v : V}
theorem WRel.heap {w1 : World} (hW : WRel B g st w) (hw1 : w1.heap = w.heap) : WRel B g st w1 := by
  have hcell : ∀ a, w1.cell? a = w.cell? a := fun a => by simp only [World.cell?, hw1]
  exact ⟨by rw [hw1]; exact hW.base, hW.fresh0, fun i b h => by rw [hw1]; exact hW.blkO i b h, fun i b h => by rw [hw1]; exact hW.blkT i b h, hW.inj, hW.objTok, hW.noImm,
    fun i b h => by rw [hw1]; exact hW.cells i b h, fun i b h => by rw [hw1]; exact hW.maps i b h, fun b o v h => by rw [hcell]; exact hW.imm b o v h, fun t h => by rw [hw1]; exact hW.tok t h, hW.tokInj, hW.lo, hW.glob⟩
theorem flat_ones1 : ∀ {l : List V}, (∀ v ∈ l, v.one = true) → flat l = l
  | [], _ => rfl
  | v :: l, h => by
    have hv := h v (by simp)
    have ih := flat_ones1 (l := l) (fun x hx => h x (by simp [hx]))
    show v.cells ++ flat l = v :: l
    rw [ih]
    cases v <;> first | rfl | (simp [V.one] at hv)
theorem V.cells_one {v : V} (h : v.one = true) : v.cells = [v] := by
  cases v <;> first | rfl | (simp [V.one] at h)
theorem src_cells {sz : Nat} {b : V} {cb : Value} {m : List V} (hm : elemsOf st sz b = some m) (hr : VRel g b cb) (hW : WRel B g st w) {k : Nat} (hk : k ≤ m.length) :
    ∃ cvs, (∀ w1 : World, (Builtin.lenOf cb).run P w1 = .ok m.length w1) ∧ (∀ w1 : World, w1.heap = w.heap → (Builtin.firstCells sz k cb).run P w1 = .ok cvs w1) ∧ LR (VRel g) (flat (m.take k)) cvs.toList ∧ (∀ v ∈ flat m, v.one = true) ∧ (∀ e ∈ m, e.cells.length = sz) := by
  cases hr with
  | lst hn hs hone hc himm hl hr' =>
    rename_i s l c base n cap cvs
    subst hn
    simp only [elemsOf] at hm
    split at hm
    · rename_i hss; subst hss
      simp only [Option.some.injEq] at hm; subst hm
      have hlr : LR (VRel g) (flat l) cvs := ⟨hl, hr'⟩
      have hft : flat (l.take k) = (flat l).take (k * s) := flat_take hs k
      refine ⟨(cvs.take (k * s)).toArray, fun w1 => by simp [Builtin.lenOf], fun w1 hw1 => ?_, by rw [hft]; simpa using hlr.take (k * s), hone, hs⟩
      have hlen : cvs.length = l.length * s := by rw [← hl, flat_length hs]
      have hle : k * s ≤ l.length * s := Nat.mul_le_mul_right _ hk
      cases base with
      | none =>
        have hcv : cvs = [] := by
          cases cvs with
          | nil => rfl
          | cons c0 r =>
            obtain ⟨b0, o0, hb0, _⟩ := himm 0 c0 rfl
            cases hb0
        simp [Builtin.firstCells, hcv]
      | some ad =>
        by_cases h0 : k * s = 0
        · simp [Builtin.firstCells, h0, loadCells, loadCellsFrom]
        · have hpos : 0 < cvs.length := by omega
          obtain ⟨b0, o0, hb0, _⟩ := himm 0 _ (List.getElem?_eq_getElem hpos)
          simp only [Option.some.injEq] at hb0
          subst hb0
          have hW1 := hW.heap hw1
          have := run_loadCells' (P := P) (w := w1) (b := b0) (off := o0) (n := k * s) (cs := cvs.take (k * s)) (by simp; omega) (by
            intro j cc hj
            rw [List.getElem?_take] at hj
            split at hj
            · obtain ⟨b2, o2, hb2, hi2⟩ := himm j cc hj
              simp only [Option.some.injEq, Addr.mk.injEq] at hb2
              obtain ⟨rfl, rfl, _⟩ := hb2
              exact hW1.imm _ _ _ hi2
            · cases hj)
          simp [Builtin.firstCells, this]
    · cases hm
  | ref hg hlc =>
    rename_i s id off len cap bk
    simp only [elemsOf] at hm
    split at hm
    · rename_i hss; subst hss
      simp only [Option.bind_eq_some_iff] at hm
      obtain ⟨cs, hcs, hm⟩ := hm
      split at hm
      · rename_i hle
        simp only [Option.some.injEq] at hm
        by_cases hs1 : s ≠ 1
        · rw [if_neg hs1] at hm
          subst hm
          obtain ⟨b', cur, e, f, h1, h2, h3, h4, h5⟩ := hW.cells id cs hcs
          obtain rfl := Option.some.inj (h1.symm.trans hg)
          have hone : ∀ v ∈ flat (chunks s len (cs.drop off)), v.one = true := fun v hv => by
            rw [flat_chunks] at hv
            exact h5 v (List.mem_of_mem_drop (List.mem_of_mem_take hv))
          have hsz := chunks_sz s len (cs.drop off) (by simp; omega)
          have hk' : k ≤ len := by rw [chunks_len] at hk; exact hk
          have hkl : k * s ≤ len * s := Nat.mul_le_mul_right _ hk'
          have hlr := (h4.drop off).take (k * s)
          have hft : flat ((chunks s len (cs.drop off)).take k) = (cs.drop off).take (k * s) := by
            rw [flat_take hsz, flat_chunks, List.take_take, Nat.min_eq_left hkl]
          refine ⟨((cur.toList.drop off).take (k * s)).toArray, fun w1 => by simp [Builtin.lenOf, chunks_len], fun w1 hw1 => ?_, by rw [hft]; simpa using hlr, hone, hsz⟩
          have := run_loadCells' (P := P) (w := w1) (b := b') (off := off) (n := k * s) (cs := (cur.toList.drop off).take (k * s)) (by rw [← hlr.1]; simp; omega) (by
            intro j cc hj
            rw [List.getElem?_take] at hj
            split at hj
            · rw [List.getElem?_drop] at hj
              simp only [World.cell?, hw1, h2]
              simpa using hj
            · cases hj)
          simp [Builtin.firstCells, this]
        have hs1' : s = 1 := by simpa using hs1
        subst hs1'
        rw [if_pos rfl] at hm
        subst hm
        rw [Nat.mul_one] at hle
        obtain ⟨b', cur, e, f, h1, h2, h3, h4, h5⟩ := hW.cells id cs hcs
        obtain rfl := Option.some.inj (h1.symm.trans hg)
        have hone : ∀ v ∈ (cs.drop off).take len, v.one = true := fun v hv => h5 v (List.mem_of_mem_drop (List.mem_of_mem_take hv))
        have hlen : ((cs.drop off).take len).length = len := by simp; omega
        have hk' : k ≤ len := by rw [hlen] at hk; exact hk
        have hone2 : ∀ v ∈ ((cs.drop off).take len).take k, v.one = true := fun v hv => hone v (List.mem_of_mem_take hv)
        have hlr := (h4.drop off).take k
        refine ⟨((cur.toList.drop off).take k).toArray, fun w1 => by simp [Builtin.lenOf]; omega, fun w1 hw1 => ?_, ?_, ?_, ?_⟩
        · have := run_loadCells' (P := P) (w := w1) (b := b') (off := off) (n := k) (cs := (cur.toList.drop off).take k) (by rw [← hlr.1]; simp; omega) (by
            intro j cc hj
            rw [List.getElem?_take] at hj
            split at hj
            · rw [List.getElem?_drop] at hj
              simp only [World.cell?, hw1, h2]
              simpa using hj
            · cases hj)
          simp [Builtin.firstCells, this]
        · rw [flat_ones1 hone2, List.take_take, Nat.min_eq_left hk']
          simpa using hlr
        · rw [flat_ones1 hone]; exact hone
        · intro e he; rw [V.cells_one (hone e he)]; rfl
      · cases hm
    · cases hm
  | _ => simp [elemsOf] at hm
theorem nextslicecap_le {need cap : Nat} (h : cap < need) : Builtin.nextslicecap need cap ≤ 2 * need := by
  unfold Builtin.nextslicecap
  split
  · omega
  · split
    · omega
    · have key : ∀ (r c : Nat), c ≤ 2 * need → 768 ≤ 3 * need → Builtin.growBy need r c ≤ 2 * need := by
        intro r
        induction r with
        | zero => intro c hc _; exact hc
        | succ r ih =>
          intro c hc h3
          unfold Builtin.growBy
          split
          · exact hc
          · exact ih _ (by omega) h3
      exact key 4 cap (by omega) (by omega)
theorem cap_shape {sz n : Nat} {c : Cap} {base : Option Addr} {cap : Nat} (hc : CapOk g sz n c base cap) (hcan : canApp st c = true) (hsz : 0 < sz) :
    (cap = n ∧ (c = .nil ∨ c = .exact ∨ c = .full)) ∨ (∃ t b o lim, c = .tail t ∧ st.tok t = true ∧ base = some ⟨b, o, none⟩ ∧ g.tok t = some ⟨b, o + n * sz, lim⟩ ∧ n ≤ cap ∧ o + cap * sz ≤ lim ∧ g.lo ≤ b) := by
  cases c with
  | nil => left; obtain ⟨_, h1, h2⟩ := hc; exact ⟨by omega, .inl rfl⟩
  | exact => left; exact ⟨hc.2, .inr (.inl rfl)⟩
  | full => left; exact ⟨hc.2, .inr (.inr rfl)⟩
  | tail t =>
    right
    obtain ⟨b, o, lim, h1, h2, h3, h4, h5⟩ := hc
    exact ⟨t, b, o, lim, rfl, hcan, h1, h2, h3, h4, h5⟩
  | unk => simp [canApp] at hcan
theorem length_cells_of {sz : Nat} {l : List V} {cvs : List Value} (hs : ∀ e ∈ l, e.cells.length = sz) (hl : (flat l).length = cvs.length) : cvs.length = l.length * sz := by
  rw [← hl, flat_length hs]
theorem appSt_cons (st : St) (c : Cap) {m : List V} (h : m ≠ []) : appSt st c m = (match c with | .tail t => st.killT t | _ => st).newT := by
  unfold appSt; rw [if_neg (by simpa using h)] <;> cases c <;> rfl
theorem appCap_cons (st : St) (c : Cap) {m : List V} (h : m ≠ []) : appCap st c m = .tail st.next := by
  unfold appCap; rw [if_neg (by simpa using h)]
theorem append_inplace {sz : Nat} {l m : List V} {c : Cap} {base : Option Addr} {cap : Nat} {cvm : List Value}
    (hsz0 : sz ≠ 0) (hx : VRel g (.lst sz l c) (.slice base l.length cap)) (hW : WRel B g st w) (hm : m ≠ []) (hcan : canApp st c = true) (hfit : l.length + m.length ≤ cap)
    (hlm : LR (VRel g) (flat m) cvm) (hom : ∀ v ∈ flat m, v.one = true) (hsm : ∀ e ∈ m, e.cells.length = sz) :
    ∃ ad g' w', base = some ad ∧ (∀ w0, w0 = w → (storeCells (ad.add (l.length * sz)) cvm).run P w0 = .ok () w') ∧
      VRel g' (.lst sz (l ++ m) (appCap st c m)) (.slice base (l.length + m.length) cap) ∧ WRel B g' (appSt st c m) w' ∧ Step g w g' w' := by
  have hmpos : 0 < m.length := List.length_pos_iff.2 hm
  cases hx with
  | lst hn hs hone hc himm hl hr' =>
  rename_i cvs
  rcases cap_shape (st := st) hc hcan (Nat.pos_of_ne_zero hsz0) with ⟨h1, _⟩ | ⟨t, b, o, lim, rfl, htok, rfl, hg, hcap, hlim, hlo⟩
  · omega
  · obtain ⟨i, cur, e, fr, q1, q2, q3, q4, q5⟩ := hW.tok t htok
    obtain rfl : i = ⟨b, o + l.length * sz, lim⟩ := Option.some.inj (q1.symm.trans hg)
    have hcm : cvm.length = m.length * sz := length_cells_of hsm hlm.1
    have hcl : cvs.length = l.length * sz := length_cells_of hs hl
    have hle : l.length * sz + m.length * sz ≤ cap * sz := by rw [← Nat.add_mul]; exact Nat.mul_le_mul_right _ hfit
    have q4' : lim ≤ cur.size := q4
    have hap := hW.appendTok htok hg q2 cvm (by simp only; omega) q4
    have le := hap.2.le
    rw [appSt_cons st _ hm, appCap_cons st _ hm]
    refine ⟨⟨b, o, none⟩, _, _, rfl, ?_, ?_, hap.1, hap.2⟩
    · intro w0 hw0; subst hw0
      rw [add_addr]
      have := run_storeCells P b (o + l.length * sz) e fr cvm 0 cur.toList w0 (by simpa using q2) (by simpa using q3) (by simp; omega) (hlm.oneCells hom)
      simpa using this
    · refine .lst (cvs := cvs ++ cvm) (by simp) ?_ ?_ ?_ ?_ ?_ ?_
      · intro x hx
        rcases List.mem_append.1 hx with hx | hx
        · exact hs x hx
        · exact hsm x hx
      · intro x hx
        rw [flat_append] at hx
        rcases List.mem_append.1 hx with hx | hx
        · exact hone x hx
        · exact hom x hx
      · refine ⟨b, o, lim, rfl, ?_, hfit, hlim, hlo⟩
        simp only [upd_same]
        congr 2
        rw [hcm, Nat.add_mul]; omega
      · intro j cc hj
        refine ⟨b, o, rfl, ?_⟩
        rcases Nat.lt_or_ge j cvs.length with hjl | hjl
        · rw [List.getElem?_append_left hjl] at hj
          obtain ⟨b2, o2, hb2, hi2⟩ := himm j cc hj
          simp only [Option.some.injEq, Addr.mk.injEq] at hb2
          obtain ⟨rfl, rfl, _⟩ := hb2
          exact le.imm _ _ _ hi2
        · rw [List.getElem?_append_right hjl] at hj
          have hjlt := (List.getElem?_eq_some_iff.1 hj).1
          show (if _ then _ else _) = _
          rw [if_pos ⟨rfl, by simp only; omega, by simp only; omega⟩]
          rw [← hj]
          congr 1
          simp only; omega
      · rw [flat_append, List.length_append, List.length_append, hl, hlm.1]
      · rw [flat_append]
        exact (LR.append (LR.mono le ⟨hl, hr'⟩) (hlm.mono le)).2
theorem append_new {e sz : Nat} {l m : List V} {c : Cap} {base : Option Addr} {cap newCap : Nat} {cvm : List Value} {zc : Array Value}
    (hsz0 : sz ≠ 0) (hx : VRel g (.lst sz l c) (.slice base l.length cap)) (hW : WRel B g st w) (hm : m ≠ []) (hcan : canApp st c = true) (hfit : l.length + m.length ≤ newCap)
    (hlm : LR (VRel g) (flat m) cvm) (hom : ∀ v ∈ flat m, v.one = true) (hsm : ∀ e ∈ m, e.cells.length = sz) (hz : zc.size = sz) :
    ∃ cvo : Array Value, (∀ w1 : World, w1.heap = w.heap → (Builtin.firstCells sz l.length (.slice base l.length cap)).run P w1 = .ok cvo w1) ∧ ∃ g',
      VRel g' (.lst sz (l ++ m) (appCap st c m)) (.slice (some ⟨w.heap.size, 0, none⟩) (l.length + m.length) newCap) ∧
      WRel B g' (appSt st c m) (w.alloc (.cells (cvo ++ cvm.toArray ++ Builtin.zeroCells zc (newCap - (l.length + m.length))) e)) ∧
      Step g w g' (w.alloc (.cells (cvo ++ cvm.toArray ++ Builtin.zeroCells zc (newCap - (l.length + m.length))) e)) := by
  have hcm : cvm.length = m.length * sz := length_cells_of hsm hlm.1
  obtain ⟨cvo, _, ho2, ho3, hone, hs⟩ := src_cells (P := P) (st := st) (k := l.length) (m := l) (sz := sz) (by simp [elemsOf]) hx hW (Nat.le_refl _)
  refine ⟨cvo, ho2, ?_⟩
  rw [List.take_length] at ho3
  have hco : cvo.toList.length = l.length * sz := length_cells_of hs ho3.1
  have hW2 : ∃ st2 : St, WRel B g st2 w ∧ st2.next = st.next ∧ appSt st c m = st2.newT := by
    rw [appSt_cons st c hm]
    cases c with
    | tail t => exact ⟨st.killT t, hW.kill t, rfl, rfl⟩
    | _ => exact ⟨st, hW, rfl, rfl⟩
  obtain ⟨st2, hW2, hnext, happ⟩ := hW2
  have hzl : (Builtin.zeroCells zc (newCap - (l.length + m.length))).size = (newCap - (l.length + m.length)) * sz := by simp [Builtin.zeroCells, hz]
  have hsize : (cvo ++ cvm.toArray ++ Builtin.zeroCells zc (newCap - (l.length + m.length))).size = newCap * sz := by
    simp only [Array.size_append, hzl, List.size_toArray]
    have h1 : cvo.size = l.length * sz := by simpa using hco
    rw [h1, hcm, ← Nat.add_mul, ← Nat.add_mul]
    congr 1; omega
  have hnt := hW2.newTok (cvo ++ cvm.toArray ++ Builtin.zeroCells zc (newCap - (l.length + m.length))) e ((l.length + m.length) * sz)
  have htake : (cvo ++ cvm.toArray ++ Builtin.zeroCells zc (newCap - (l.length + m.length))).toList.take ((l.length + m.length) * sz) = cvo.toList ++ cvm := by
    simp only [Array.toList_append]
    rw [List.take_append_of_le_length (by simp only [List.length_append]; rw [hco, hcm, Nat.add_mul]; exact Nat.le_refl _)]
    rw [List.take_of_length_le (by simp only [List.length_append]; rw [hco, hcm, Nat.add_mul]; exact Nat.le_refl _)]
  rw [htake] at hnt
  rw [happ, appCap_cons st c hm]
  have le := hnt.2.le
  refine ⟨_, ?_, hnt.1, hnt.2⟩
  refine .lst (cvs := cvo.toList ++ cvm) (by simp) ?_ ?_ ?_ ?_ ?_ ?_
  · intro x hx
    rcases List.mem_append.1 hx with hx | hx
    · exact hs x hx
    · exact hsm x hx
  · intro x hx
    rw [flat_append] at hx
    rcases List.mem_append.1 hx with hx | hx
    · exact hone x hx
    · exact hom x hx
  · refine ⟨w.heap.size, 0, newCap * sz, rfl, ?_, hfit, by omega, by have := hW.base; have := hW.lo; show g.lo ≤ _; omega⟩
    simp only [hnext, upd_same, hsize]
    simp
  · intro j cc hj
    exact ⟨w.heap.size, 0, rfl, by simpa [G.withImm] using hj⟩
  · rw [flat_append, List.length_append, List.length_append, ho3.1, hlm.1]
  · rw [flat_append]
    exact (LR.append (ho3.mono le) (hlm.mono le)).2
end
end Go.Sim
