/- Merged by a program of mine (pack.py) out of my own texts; what is not used is left out. -/
import Derived.Test.YtffenelcgjdbiaaGreatDoorKOramPlays10
set_option linter.unusedVariables false
set_option linter.unusedSimpArgs false
namespace Go.Sim
open Go
def repl {α : Type} (l : List α) (k : Nat) (vs : List α) : List α := l.take k ++ vs ++ l.drop (k + vs.length)
theorem repl_nil {α : Type} (l : List α) (k : Nat) : repl l k [] = l := by simp [repl]
theorem repl_cons {α : Type} (l : List α) (k : Nat) (v : α) (vs : List α) (h : k < l.length) : repl (l.set k v) (k + 1) vs = repl l k (v :: vs) := by
  apply List.ext_getElem?
  intro i
  simp only [repl, List.append_assoc, List.getElem?_append, List.length_take, List.length_set, List.length_cons, List.getElem?_take, List.getElem?_drop, List.getElem?_set, List.getElem?_cons]
  rcases Nat.lt_trichotomy i k with h1 | h1 | h1
  · simp [show i < min (k + 1) l.length by omega, show i < min k l.length by omega, show i < k + 1 by omega, h1, show k ≠ i by omega]
  · subst h1
    simp [show i < min (i + 1) l.length by omega, show ¬ i < min i l.length by omega, h, show i - min i l.length = 0 by omega]
  · have e1 : ¬ i < min (k + 1) l.length := by omega
    have e2 : ¬ i < min k l.length := by omega
    have e3 : min (k + 1) l.length = k + 1 := by omega
    have e4 : min k l.length = k := by omega
    simp only [e3, e4, show ¬ i < k + 1 by omega, show ¬ i < k by omega, if_false]
    by_cases h2 : i - (k + 1) < vs.length
    · rw [if_pos h2, if_pos (by omega), if_neg (by omega)]
      congr 1
    · rw [if_neg h2, if_neg (by omega), if_neg (by omega)]
      congr 1
      omega
theorem length_repl {α : Type} (l : List α) (k : Nat) (vs : List α) (h : k + vs.length ≤ l.length) : (repl l k vs).length = l.length := by
  simp [repl]; omega
theorem getElem?_repl {α : Type} (l : List α) (k : Nat) (vs : List α) (h : k + vs.length ≤ l.length) (i : Nat) :
    (repl l k vs)[i]? = if k ≤ i ∧ i < k + vs.length then vs[i - k]? else l[i]? := by
  simp only [repl, List.append_assoc, List.getElem?_append, List.length_take, List.getElem?_take, List.getElem?_drop]
  have e4 : min k l.length = k := by omega
  rw [e4]
  by_cases h1 : i < k
  · simp [h1, show ¬ k ≤ i by omega]
  · simp only [h1, if_false]
    by_cases h2 : i - k < vs.length
    · rw [if_pos h2, if_pos (by omega)]
    · rw [if_neg h2, if_neg (by omega)]
      congr 1; omega
theorem LR.repl {R : V → Value → Prop} {l : List V} {m : List Value} {vs : List V} {cs : List Value} (h : LR R l m) (k : LR R vs cs) (n : Nat) : LR R (Sim.repl l n vs) (Sim.repl m n cs) := by
  unfold Sim.repl
  rw [← k.1]
  exact ((h.take n).append k).append (h.drop _)
theorem alloc_old (w : World) (o : Obj) (k : Nat) (h : k < w.heap.size) : (w.alloc o).heap[k]? = w.heap[k]? := by
  show (w.heap.push o)[k]? = _
  rw [Array.getElem?_push, if_neg (by omega)]
theorem alloc_new (w : World) (o : Obj) : (w.alloc o).heap[w.heap.size]? = some o := by
  show (w.heap.push o)[w.heap.size]? = _
  simp
theorem lt_of_cell {w : World} {b o : Nat} {v : Value} (h : w.cell? ⟨b, o, none⟩ = some v) : b < w.heap.size := by
  unfold World.cell? at h
  cases hb : w.heap[b]? with
  | none => simp [hb] at h
  | some x => exact (Array.getElem?_eq_some_iff.1 hb).1
theorem cell_alloc (w : World) (o : Obj) {b k : Nat} {v : Value} (h : w.cell? ⟨b, k, none⟩ = some v) : (w.alloc o).cell? ⟨b, k, none⟩ = some v := by
  have := alloc_old w o b (lt_of_cell h)
  simpa only [World.cell?, this] using h
theorem heap_setRow (w : World) (b : Nat) (cs cur : Array Value) (e : TypeId) (fr : Nat × Nat) (h : w.heap[b]? = some (.cells cur e fr)) (k : Nat) :
    (w.setRow b cs).heap[k]? = if k = b then some (.cells cs e fr) else w.heap[k]? := by
  simp only [World.setRow, Array.getElem?_modify]
  by_cases hk : b = k
  · subst hk; simp [h]
  · rw [if_neg hk, if_neg (fun e => hk e.symm)]
theorem run_storeCells (P : Program) (b o : Nat) (e : TypeId) (fr : Nat × Nat) : ∀ (vs : List Value) (i : Nat) (cur : List Value) (w : World),
    w.heap[b]? = some (.cells cur.toArray e fr) → Free fr cur.length → o + i + vs.length ≤ cur.length → (∀ v ∈ vs, v.oneCell' = true) →
    (storeCells ⟨b, o, none⟩ vs i).run P w = .ok () (w.setRow b (repl cur (o + i) vs).toArray) := by
  intro vs
  induction vs with
  | nil =>
    intro i cur w hb hf hl ho
    simp only [storeCells, Sem.run_pure, repl_nil]
    congr 1
    have : w.setRow b cur.toArray = w := by
      have he : (w.setRow b cur.toArray).heap = w.heap := by
        apply Array.ext_getElem?
        intro k
        rw [heap_setRow w b _ _ e fr hb]
        split
        · rename_i hk; subst hk; exact hb.symm
        · rfl
      calc w.setRow b cur.toArray = { w with heap := (w.setRow b cur.toArray).heap } := rfl
        _ = w := by rw [he]
    exact this.symm
  | cons v vs ih =>
    intro i cur w hb hf hl ho
    simp only [List.length_cons] at hl
    have hadd : Addr.add ⟨b, o, none⟩ i = ⟨b, o + i, none⟩ := by
      simp only [Addr.add]; split <;> simp_all
    have hcell : w.cell? ⟨b, o + i, none⟩ = some (cur[o + i]'(by omega)) := by
      simp [World.cell?, hb, show o + i < cur.length by omega]
    have hfz : w.frozen? ⟨b, o + i, none⟩ = false := by
      simp only [World.frozen?, hb]
      have := hf.not (o + i) (by omega)
      simpa using this
    have hv := ho v (by simp)
    simp only [storeCells, Sem.run_bind, hadd]
    rw [run_store P w _ v .plain hv]
    simp only [hcell, hfz, Bool.false_eq_true, if_false, Result.andThen_ok]
    have hb' : (w.setCell ⟨b, o + i, none⟩ v).heap[b]? = some (.cells (cur.set (o + i) v).toArray e fr) := by
      simp only [World.setCell, Array.getElem?_modify, if_true, hb, Option.map_some]
      simp
    rw [ih (i + 1) (cur.set (o + i) v) _ hb' (by simpa using hf) (by simp; omega) (fun x hx => ho x (by simp [hx]))]
    congr 1
    have e1 : o + (i + 1) = o + i + 1 := by omega
    rw [e1, repl_cons cur (o + i) v vs (by omega)]
    have he : ((w.setCell ⟨b, o + i, none⟩ v).setRow b (repl cur (o + i) (v :: vs)).toArray).heap = (w.setRow b (repl cur (o + i) (v :: vs)).toArray).heap := by
      apply Array.ext_getElem?
      intro k
      rw [heap_setRow _ b _ _ e fr hb', heap_setRow w b _ _ e fr hb]
      split
      · rfl
      · rename_i hk
        simp only [World.setCell, Array.getElem?_modify]
        rw [if_neg (fun h => hk h.symm)]
    calc (w.setCell ⟨b, o + i, none⟩ v).setRow b (repl cur (o + i) (v :: vs)).toArray
        = { w with heap := ((w.setCell ⟨b, o + i, none⟩ v).setRow b (repl cur (o + i) (v :: vs)).toArray).heap } := rfl
      _ = { w with heap := (w.setRow b (repl cur (o + i) (v :: vs)).toArray).heap } := by rw [he]
      _ = _ := rfl
theorem cell_setRow_other (w : World) (b : Nat) (cs : Array Value) (a : Addr) (h : a.block ≠ b) : (w.setRow b cs).cell? a = w.cell? a := by
  have : (w.setRow b cs).heap[a.block]? = w.heap[a.block]? := by
    simp only [World.setRow, Array.getElem?_modify]
    rw [if_neg (fun e => h e.symm)]
  simp only [World.cell?, this]
theorem size_setRow' (w : World) (b : Nat) (cs : Array Value) : (w.setRow b cs).heap.size = w.heap.size := by simp [World.setRow]
theorem WRel.setObj {B : Env} {g : G} {st : St} {w : World} (h : WRel B g st w) {id b : Nat} {cs cs' : List V} {cvs : Array Value} {cur : Array Value} {e : TypeId} {fr : Nat × Nat}
    (hc : st.cells id = some cs) (ho : g.obj id = some b) (hb : w.heap[b]? = some (.cells cur e fr)) (hf : Free fr cur.size) (hsz : cvs.size = cur.size)
    (hr : LR (VRel g) cs' cvs.toList) (hone : ∀ v ∈ cs', v.one = true) :
    WRel B g (st.setC id cs') (w.setRow b cvs) ∧ Step g w g (w.setRow b cvs) := by
  have live : st.live id := .inl (by rw [hc]; rfl)
  have livek : ∀ k, (st.setC id cs').live k → st.live k := by
    intro k hk
    by_cases e : k = id
    · subst e; exact live
    · rcases hk with hk | hk
      · left; simpa [St.setC, upd_ne _ _ e] using hk
      · right; exact hk
  have hother : ∀ k, k ≠ b → (w.setRow b cvs).heap[k]? = w.heap[k]? := fun k hk => by rw [heap_setRow w b cvs cur e fr hb, if_neg hk]
  refine ⟨?_, ?_⟩
  · refine ⟨by rw [size_setRow']; exact h.base, ?_, ?_, ?_, ?_, ?_, ?_, ?_, ?_, ?_, ?_, h.tokInj, h.lo, h.glob⟩
    · intro k hk
      exact h.fresh0 k hk
    · intro k x hx; rw [size_setRow']; exact h.blkO k x hx
    · intro k x hx; rw [size_setRow']; exact h.blkT k x hx
    · intro i j x hi hj; exact h.inj i j x (livek i hi) (livek j hj)
    · intro i x t k hi ht; exact h.objTok i x t k (livek i hi) ht
    · intro i x o hi; exact h.noImm i x o (livek i hi)
    · intro k ks hks
      by_cases ek : k = id
      · subst ek
        simp only [St.setC, upd_same, hc, Option.map_some, Option.some.injEq] at hks
        subst hks
        exact ⟨b, cvs, e, fr, ho, by rw [heap_setRow w b cvs cur e fr hb, if_pos rfl], by rw [hsz]; exact hf, hr, hone⟩
      · simp only [St.setC, upd_ne _ _ ek] at hks
        obtain ⟨b', c', e', f', h1, h2, h3, h4, h5⟩ := h.cells k ks hks
        have : b' ≠ b := fun eb => ek (h.inj k id b (.inl (by rw [hks]; rfl)) live (eb ▸ h1) ho)
        exact ⟨b', c', e', f', h1, by rw [hother _ this]; exact h2, h3, h4, h5⟩
    · intro k m hm
      obtain ⟨b', es, cl, h1, h2, h3⟩ := h.maps k m hm
      have : b' ≠ b := fun eb => by rw [eb, hb] at h2; cases h2
      exact ⟨b', es, cl, h1, by rw [hother _ this]; exact h2, h3⟩
    · intro x o v hv
      have : x ≠ b := fun eb => by
        have := h.noImm id b o live ho
        rw [eb, this] at hv; cases hv
      rw [cell_setRow_other _ _ _ _ this]
      exact h.imm x o v hv
    · intro t ht
      obtain ⟨i, c', e', f', h1, h2, h3, h4, h5⟩ := h.tok t ht
      have : i.blk ≠ b := h.objTok id b t i live ht ho h1
      exact ⟨i, c', e', f', h1, by rw [hother _ this]; exact h2, h3, h4, h5⟩
  · refine ⟨.refl g, by rw [size_setRow']; exact Nat.le_refl _, rfl, rfl, rfl, ?_, fun _ _ h => .inl h, fun t i h => .inl ⟨t, i, h, rfl⟩, ?_, fun _ _ _ h => .inl h⟩
    · intro k hk
      refine hother k (fun e => ?_)
      have := (h.blkO id b ho).1
      have := h.lo
      omega
    · intro k hk hno _
      exact .inl (hother k (fun e => hno id (e ▸ ho)))
section new
variable {B : Env} {g : G} {st : St} {w : World} (h : WRel B g st w)
include h
theorem WRel.newObj {cs : List V} {cvs : Array Value} (e : TypeId) (hr : LR (VRel g) cs cvs.toList) (hone : ∀ v ∈ cs, v.one = true) :
    WRel B { g with obj := upd g.obj st.next (some w.heap.size) } (st.newC cs) (w.alloc (.cells cvs e)) ∧
      Step g w { g with obj := upd g.obj st.next (some w.heap.size) } (w.alloc (.cells cvs e)) := by
  have hn := h.fresh st.next (Nat.le_refl _)
  have le : g.le { g with obj := upd g.obj st.next (some w.heap.size) } :=
    ⟨rfl, fun i b hi => by
      have : i ≠ st.next := fun e => by subst e; rw [hn.1] at hi; cases hi
      simpa [upd_ne _ _ this] using hi, fun _ _ h => h, fun _ _ _ h => h⟩
  have old : ∀ k o, k < w.heap.size → (w.alloc o).heap[k]? = w.heap[k]? := fun k o hk => alloc_old w o k hk
  have lt_of : ∀ {k o}, w.heap[k]? = some o → k < w.heap.size := fun {k o} hk => (Array.getElem?_eq_some_iff.1 hk).1
  have objOf : ∀ i b, upd g.obj st.next (some w.heap.size) i = some b → (i = st.next ∧ b = w.heap.size) ∨ (i ≠ st.next ∧ g.obj i = some b) := by
    intro i b hi
    by_cases ei : i = st.next
    · subst ei; simp at hi; exact .inl ⟨rfl, hi.symm⟩
    · rw [upd_ne _ _ ei] at hi; exact .inr ⟨ei, hi⟩
  have livek : ∀ k, (st.newC cs).live k → k = st.next ∨ st.live k := by
    intro k hk
    by_cases e : k = st.next
    · exact .inl e
    · right
      rcases hk with hk | hk
      · left; simpa [St.newC, upd_ne _ _ e] using hk
      · right; simpa [St.newC, upd_ne _ _ e] using hk
  have tokk : ∀ t, (st.newC cs).tok t = true → t ≠ st.next ∧ st.tok t = true := by
    intro t ht
    have ht' : st.tok t = true := ht
    by_cases e : t = st.next
    · subst e; rw [hn.2.2.2.2] at ht'; cases ht'
    · exact ⟨e, ht'⟩
  refine ⟨⟨?_, ?_, ?_, ?_, ?_, ?_, ?_, ?_, ?_, ?_, ?_, ?_, h.lo, fun k cs hk j c hj => le.imm _ _ _ (h.glob k cs hk j c hj)⟩, ⟨le, by simp, rfl, rfl, rfl, fun b hb => old b _ (by have := h.base; have := h.lo; omega), ?_, fun t i h => .inl ⟨t, i, h, rfl⟩, fun b hb _ _ => .inl (old b _ hb), fun _ _ _ h => .inl h⟩⟩
  · simp; have := h.base; omega
  · intro k hk
    simp only [St.newC] at hk
    have ne : k ≠ st.next := by omega
    obtain ⟨h1, h2, h3, h4, h5⟩ := h.fresh k (by omega)
    exact ⟨by simp [upd_ne _ _ ne, h1], h2⟩
  · intro i b hi
    rcases objOf i b hi with ⟨_, rfl⟩ | ⟨_, hi⟩
    · have := h.base; simp; omega
    · have := h.blkO i b hi; simp; omega
  · intro t i hi; have := h.blkT t i hi; simp; omega
  · intro i j b hi hj hib hjb
    rcases objOf i b hib with ⟨rfl, rfl⟩ | ⟨ni, hib⟩ <;> rcases objOf j _ hjb with ⟨rfl, hj2⟩ | ⟨nj, hjb⟩
    · rfl
    · have := (h.blkO j _ hjb).2; omega
    · subst hj2; have := (h.blkO i _ hib).2; omega
    · exact h.inj i j b ((livek i hi).resolve_left ni) ((livek j hj).resolve_left nj) hib hjb
  · intro i b t k hi ht hib hk
    rcases objOf i b hib with ⟨rfl, rfl⟩ | ⟨ni, hib⟩
    · have := (h.blkT t k hk).2; omega
    · exact h.objTok i b t k ((livek i hi).resolve_left ni) (tokk t ht).2 hib hk
  · intro i b o hi hib
    rcases objOf i b hib with ⟨rfl, rfl⟩ | ⟨ni, hib⟩
    · cases hv : g.imm w.heap.size o with
      | none => rfl
      | some v =>
        have := lt_of_cell (h.imm _ _ _ hv)
        omega
    · exact h.noImm i b o ((livek i hi).resolve_left ni) hib
  · intro k ks hks
    by_cases ek : k = st.next
    · subst ek
      simp only [St.newC, upd_same, Option.some.injEq] at hks
      subst hks
      exact ⟨w.heap.size, cvs, e, (0, 0), by simp, alloc_new w _, Or.inl rfl, hr.mono le, hone⟩
    · simp only [St.newC, upd_ne _ _ ek] at hks
      obtain ⟨b', c', e', f', h1, h2, h3, h4, h5⟩ := h.cells k ks hks
      exact ⟨b', c', e', f', le.obj _ _ h1, by rw [old _ _ (lt_of h2)]; exact h2, h3, h4.mono le, h5⟩
  · intro k m hm
    have ne : k ≠ st.next := fun e => by subst e; rw [show (st.newC cs).maps = st.maps from rfl, hn.2.2.2.1] at hm; cases hm
    rw [show (st.newC cs).maps = st.maps from rfl] at hm
    obtain ⟨b', es, cl, h1, h2, ⟨h3, h4⟩, hst⟩ := h.maps k m hm
    exact ⟨b', es, cl, le.obj _ _ h1, by rw [old _ _ (lt_of h2)]; exact h2, ⟨h3.mono le, h4.mono le⟩, hst⟩
  · intro x o v hv
    exact cell_alloc w _ (h.imm x o v hv)
  · intro t ht
    obtain ⟨i, c', e', f', h1, h2, h3, h4, h5⟩ := h.tok t (tokk t ht).2
    exact ⟨i, c', e', f', h1, by rw [old _ _ (lt_of h2)]; exact h2, h3, h4, h5⟩
  · intro t u i j ht hu
    exact h.tokInj t u i j (tokk t ht).2 (tokk u hu).2
  · intro id b hb
    rcases objOf id b hb with ⟨_, rfl⟩ | ⟨_, hb⟩
    · exact .inr (Nat.le_refl _)
    · exact .inl hb
theorem WRel.newMap :
    WRel B { g with obj := upd g.obj st.next (some w.heap.size) } st.newM (w.alloc (.map #[] 0)) ∧
      Step g w { g with obj := upd g.obj st.next (some w.heap.size) } (w.alloc (.map #[] 0)) := by
  have hn := h.fresh st.next (Nat.le_refl _)
  have le : g.le { g with obj := upd g.obj st.next (some w.heap.size) } :=
    ⟨rfl, fun i b hi => by
      have : i ≠ st.next := fun e => by subst e; rw [hn.1] at hi; cases hi
      simpa [upd_ne _ _ this] using hi, fun _ _ h => h, fun _ _ _ h => h⟩
  have old : ∀ k o, k < w.heap.size → (w.alloc o).heap[k]? = w.heap[k]? := fun k o hk => alloc_old w o k hk
  have lt_of : ∀ {k o}, w.heap[k]? = some o → k < w.heap.size := fun {k o} hk => (Array.getElem?_eq_some_iff.1 hk).1
  have objOf : ∀ i b, upd g.obj st.next (some w.heap.size) i = some b → (i = st.next ∧ b = w.heap.size) ∨ (i ≠ st.next ∧ g.obj i = some b) := by
    intro i b hi
    by_cases ei : i = st.next
    · subst ei; simp at hi; exact .inl ⟨rfl, hi.symm⟩
    · rw [upd_ne _ _ ei] at hi; exact .inr ⟨ei, hi⟩
  have livek : ∀ k, st.newM.live k → k = st.next ∨ st.live k := by
    intro k hk
    by_cases e : k = st.next
    · exact .inl e
    · right
      rcases hk with hk | hk
      · left; simpa [St.newM, upd_ne _ _ e] using hk
      · right; simpa [St.newM, upd_ne _ _ e] using hk
  have tokk : ∀ t, st.newM.tok t = true → t ≠ st.next ∧ st.tok t = true := by
    intro t ht
    have ht' : st.tok t = true := ht
    by_cases e : t = st.next
    · subst e; rw [hn.2.2.2.2] at ht'; cases ht'
    · exact ⟨e, ht'⟩
  refine ⟨⟨?_, ?_, ?_, ?_, ?_, ?_, ?_, ?_, ?_, ?_, ?_, ?_, h.lo, fun k cs hk j c hj => le.imm _ _ _ (h.glob k cs hk j c hj)⟩, ⟨le, by simp, rfl, rfl, rfl, fun b hb => old b _ (by have := h.base; have := h.lo; omega), ?_, fun t i h => .inl ⟨t, i, h, rfl⟩, fun b hb _ _ => .inl (old b _ hb), fun _ _ _ h => .inl h⟩⟩
  · simp; have := h.base; omega
  · intro k hk
    simp only [St.newM] at hk
    have ne : k ≠ st.next := by omega
    obtain ⟨h1, h2, h3, h4, h5⟩ := h.fresh k (by omega)
    exact ⟨by simp [upd_ne _ _ ne, h1], h2⟩
  · intro i b hi
    rcases objOf i b hi with ⟨_, rfl⟩ | ⟨_, hi⟩
    · have := h.base; simp; omega
    · have := h.blkO i b hi; simp; omega
  · intro t i hi; have := h.blkT t i hi; simp; omega
  · intro i j b hi hj hib hjb
    rcases objOf i b hib with ⟨rfl, rfl⟩ | ⟨ni, hib⟩ <;> rcases objOf j _ hjb with ⟨rfl, hj2⟩ | ⟨nj, hjb⟩
    · rfl
    · have := (h.blkO j _ hjb).2; omega
    · subst hj2; have := (h.blkO i _ hib).2; omega
    · exact h.inj i j b ((livek i hi).resolve_left ni) ((livek j hj).resolve_left nj) hib hjb
  · intro i b t k hi ht hib hk
    rcases objOf i b hib with ⟨rfl, rfl⟩ | ⟨ni, hib⟩
    · have := (h.blkT t k hk).2; omega
    · exact h.objTok i b t k ((livek i hi).resolve_left ni) (tokk t ht).2 hib hk
  · intro i b o hi hib
    rcases objOf i b hib with ⟨rfl, rfl⟩ | ⟨ni, hib⟩
    · cases hv : g.imm w.heap.size o with
      | none => rfl
      | some v =>
        have := lt_of_cell (h.imm _ _ _ hv)
        omega
    · exact h.noImm i b o ((livek i hi).resolve_left ni) hib
  · intro k ks hks
    have ek : k ≠ st.next := fun e => by subst e; rw [show st.newM.cells = st.cells from rfl, hn.2.2.1] at hks; cases hks
    rw [show st.newM.cells = st.cells from rfl] at hks
    obtain ⟨b', c', e', f', h1, h2, h3, h4, h5⟩ := h.cells k ks hks
    exact ⟨b', c', e', f', le.obj _ _ h1, by rw [old _ _ (lt_of h2)]; exact h2, h3, h4.mono le, h5⟩
  · intro k m hm
    by_cases ne : k = st.next
    · subst ne
      simp only [St.newM, upd_same, Option.some.injEq] at hm
      subst hm
      exact ⟨w.heap.size, #[], 0, by simp, alloc_new w _, ⟨LR.nil, LR.nil⟩, MapKept.stamped_empty 0⟩
    · simp only [St.newM, upd_ne _ _ ne] at hm
      obtain ⟨b', es, cl, h1, h2, ⟨h3, h4⟩, hst⟩ := h.maps k m hm
      exact ⟨b', es, cl, le.obj _ _ h1, by rw [old _ _ (lt_of h2)]; exact h2, ⟨h3.mono le, h4.mono le⟩, hst⟩
  · intro x o v hv
    exact cell_alloc w _ (h.imm x o v hv)
  · intro t ht
    obtain ⟨i, c', e', f', h1, h2, h3, h4, h5⟩ := h.tok t (tokk t ht).2
    exact ⟨i, c', e', f', h1, by rw [old _ _ (lt_of h2)]; exact h2, h3, h4, h5⟩
  · intro t u i j ht hu
    exact h.tokInj t u i j (tokk t ht).2 (tokk u hu).2
  · intro id b hb
    rcases objOf id b hb with ⟨_, rfl⟩ | ⟨_, hb⟩
    · exact .inr (Nat.le_refl _)
    · exact .inl hb
end new
end Go.Sim
