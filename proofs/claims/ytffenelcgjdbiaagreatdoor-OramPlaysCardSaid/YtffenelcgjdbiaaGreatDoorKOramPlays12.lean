/- Merged by a program of mine (pack.py) out of my own texts; what is not used is left out. -/
import Derived.Test.YtffenelcgjdbiaaGreatDoorKOramPlays11
set_option linter.unusedVariables false
set_option linter.unusedSimpArgs false
namespace Go.Sim
open Go
def G.withImm (g : G) (b : Nat) (cvs : List Value) : G :=
  { g with imm := fun x o => if x = b then cvs[o]? else g.imm x o }
theorem ImmB.withImm (g : G) (b : Nat) (cvs : List Value) : ImmB (g.withImm b cvs) (some ⟨b, 0, none⟩) cvs := by
  intro j c hj
  exact ⟨b, 0, rfl, by simpa [G.withImm] using hj⟩
section new
variable {B : Env} {g : G} {st : St} {w : World} (h : WRel B g st w)
include h
theorem WRel.imm_none (o : Nat) : g.imm w.heap.size o = none := by
  cases hv : g.imm w.heap.size o with
  | none => rfl
  | some v =>
    have := lt_of_cell (h.imm _ _ _ hv)
    omega
theorem WRel.le_withImm (cvs : List Value) : g.le (g.withImm w.heap.size cvs) :=
  ⟨rfl, fun _ _ h => h, fun _ _ h => h, fun b o v hv => by
    have : b ≠ w.heap.size := fun e => by subst e; rw [h.imm_none] at hv; cases hv
    simpa [G.withImm, this] using hv⟩
theorem WRel.newImm (cvs : Array Value) (e : TypeId) (n : Nat) :
    WRel B (g.withImm w.heap.size (cvs.toList.take n)) st (w.alloc (.cells cvs e)) ∧ Step g w (g.withImm w.heap.size (cvs.toList.take n)) (w.alloc (.cells cvs e)) := by
  have le := h.le_withImm (cvs.toList.take n)
  have old : ∀ k o, k < w.heap.size → (w.alloc o).heap[k]? = w.heap[k]? := fun k o hk => alloc_old w o k hk
  have lt_of : ∀ {k o}, w.heap[k]? = some o → k < w.heap.size := fun {k o} hk => (Array.getElem?_eq_some_iff.1 hk).1
  refine ⟨⟨?_, h.fresh0, ?_, ?_, h.inj, h.objTok, ?_, ?_, ?_, ?_, ?_, h.tokInj, h.lo, fun k cs hk j c hj => le.imm _ _ _ (h.glob k cs hk j c hj)⟩, ⟨le, by simp, rfl, rfl, rfl, fun b hb => old b _ (by have := h.base; have := h.lo; omega), fun _ _ h => .inl h, fun t i h => .inl ⟨t, i, h, rfl⟩, fun b hb _ _ => .inl (old b _ hb), fun x o v hv => by
    by_cases e : x = w.heap.size
    · exact .inr (.inl (e ▸ Nat.le_refl _))
    · simp only [G.withImm, if_neg e] at hv; exact .inl hv⟩⟩
  · simp; have := h.base; omega
  · intro i b hi; have := h.blkO i b hi; simp; omega
  · intro t i hi; have := h.blkT t i hi; simp; omega
  · intro i b o hi hib
    have : b ≠ w.heap.size := by have := (h.blkO i b hib).2; omega
    simp only [G.withImm, if_neg this]
    exact h.noImm i b o hi hib
  · intro k ks hks
    obtain ⟨b', c', e', f', h1, h2, h3, h4, h5⟩ := h.cells k ks hks
    exact ⟨b', c', e', f', h1, by rw [old _ _ (lt_of h2)]; exact h2, h3, h4.mono le, h5⟩
  · intro k m hm
    obtain ⟨b', es, cl, h1, h2, ⟨h3, h4⟩, hst⟩ := h.maps k m hm
    exact ⟨b', es, cl, h1, by rw [old _ _ (lt_of h2)]; exact h2, ⟨h3.mono le, h4.mono le⟩, hst⟩
  · intro x o v hv
    by_cases e' : x = w.heap.size
    · subst e'
      simp only [G.withImm, if_true] at hv
      simp only [World.cell?, alloc_new]
      rw [List.getElem?_take] at hv
      split at hv
      · simpa using hv
      · cases hv
    · simp only [G.withImm, if_neg e'] at hv
      exact cell_alloc w _ (h.imm x o v hv)
  · intro t ht
    obtain ⟨i, c', e', f', h1, h2, h3, h4, h5⟩ := h.tok t ht
    refine ⟨i, c', e', f', h1, by rw [old _ _ (lt_of h2)]; exact h2, h3, h4, fun o ho => ?_⟩
    have : i.blk ≠ w.heap.size := by have := (h.blkT t i h1).2; omega
    simp only [G.withImm, if_neg this]
    exact h5 o ho
theorem WRel.newTokF (cvs : Array Value) (e : TypeId) (n : Nat) (fr : Nat × Nat) (hfr : Free fr cvs.size) :
    WRel B { g.withImm w.heap.size (cvs.toList.take n) with tok := upd g.tok st.next (some ⟨w.heap.size, n, cvs.size⟩) } st.newT (w.alloc (.cells cvs e fr)) ∧
      Step g w { g.withImm w.heap.size (cvs.toList.take n) with tok := upd g.tok st.next (some ⟨w.heap.size, n, cvs.size⟩) } (w.alloc (.cells cvs e fr)) := by
  have hn := h.fresh st.next (Nat.le_refl _)
  have le1 := h.le_withImm (cvs.toList.take n)
  have le : g.le { g.withImm w.heap.size (cvs.toList.take n) with tok := upd g.tok st.next (some ⟨w.heap.size, n, cvs.size⟩) } :=
    ⟨rfl, fun _ _ h => h, fun t i hi => by
      have : t ≠ st.next := fun e => by subst e; rw [hn.2.1] at hi; cases hi
      simpa [upd_ne _ _ this] using hi, le1.imm⟩
  have old : ∀ k o, k < w.heap.size → (w.alloc o).heap[k]? = w.heap[k]? := fun k o hk => alloc_old w o k hk
  have lt_of : ∀ {k o}, w.heap[k]? = some o → k < w.heap.size := fun {k o} hk => (Array.getElem?_eq_some_iff.1 hk).1
  have tokOf : ∀ t i, upd g.tok st.next (some ⟨w.heap.size, n, cvs.size⟩) t = some i → (t = st.next ∧ i = ⟨w.heap.size, n, cvs.size⟩) ∨ (t ≠ st.next ∧ g.tok t = some i) := by
    intro t i hi
    by_cases et : t = st.next
    · subst et; simp at hi; exact .inl ⟨rfl, hi.symm⟩
    · rw [upd_ne _ _ et] at hi; exact .inr ⟨et, hi⟩
  have livek : ∀ k, st.newT.live k → st.live k := by
    intro k hk
    exact hk
  have tokk : ∀ t, t ≠ st.next → st.newT.tok t = true → st.tok t = true := by
    intro t e ht
    simpa [St.newT, upd_ne _ _ e] using ht
  refine ⟨⟨?_, ?_, ?_, ?_, ?_, ?_, ?_, ?_, ?_, ?_, ?_, ?_, h.lo, fun k cs hk j c hj => le.imm _ _ _ (h.glob k cs hk j c hj)⟩, ⟨le, by simp, rfl, rfl, rfl, fun b hb => old b _ (by have := h.base; have := h.lo; omega), fun _ _ h => .inl h, ?_, fun b hb _ _ => .inl (old b _ hb), fun x o v hv => by
    by_cases e : x = w.heap.size
    · exact .inr (.inl (e ▸ Nat.le_refl _))
    · simp only [G.withImm, if_neg e] at hv; exact .inl hv⟩⟩
  · simp; have := h.base; omega
  · intro k hk
    simp only [St.newT] at hk
    have ne : k ≠ st.next := by omega
    obtain ⟨h1, h2, h3, h4, h5⟩ := h.fresh k (by omega)
    exact ⟨h1, by simp [upd_ne _ _ ne, h2]⟩
  · intro i b hi; have := h.blkO i b hi; simp; omega
  · intro t i hi
    rcases tokOf t i hi with ⟨_, rfl⟩ | ⟨_, hi⟩
    · have := h.base; simp; omega
    · have := h.blkT t i hi; simp; omega
  · intro i j b hi hj
    exact h.inj i j b (livek i hi) (livek j hj)
  · intro i b t k hi ht hib hk
    rcases tokOf t k hk with ⟨rfl, rfl⟩ | ⟨nt, hk⟩
    · have := (h.blkO i b hib).2
      exact fun e => by simp at e; omega
    · exact h.objTok i b t k (livek i hi) (tokk t nt ht) hib hk
  · intro i b o hi hib
    have : b ≠ w.heap.size := by have := (h.blkO i b hib).2; omega
    simp only [G.withImm, if_neg this]
    exact h.noImm i b o (livek i hi) hib
  · intro k ks hks
    obtain ⟨b', c', e', f', h1, h2, h3, h4, h5⟩ := h.cells k ks hks
    exact ⟨b', c', e', f', h1, by rw [old _ _ (lt_of h2)]; exact h2, h3, h4.mono le, h5⟩
  · intro k m hm
    obtain ⟨b', es, cl, h1, h2, ⟨h3, h4⟩, hst⟩ := h.maps k m hm
    exact ⟨b', es, cl, h1, by rw [old _ _ (lt_of h2)]; exact h2, ⟨h3.mono le, h4.mono le⟩, hst⟩
  · intro x o v hv
    by_cases e' : x = w.heap.size
    · subst e'
      simp only [G.withImm, if_true] at hv
      simp only [World.cell?, alloc_new]
      rw [List.getElem?_take] at hv
      split at hv
      · simpa using hv
      · cases hv
    · simp only [G.withImm, if_neg e'] at hv
      exact cell_alloc w _ (h.imm x o v hv)
  · intro t ht
    by_cases et : t = st.next
    · subst et
      refine ⟨⟨w.heap.size, n, cvs.size⟩, cvs, e, fr, by simp, alloc_new w _, hfr, Nat.le_refl _, fun o ho => ?_⟩
      simp only [G.withImm, if_true]
      rw [List.getElem?_take, if_neg (by simpa using ho)]
    · obtain ⟨i, c', e', f', h1, h2, h3, h4, h5⟩ := h.tok t (tokk t et ht)
      refine ⟨i, c', e', f', by rw [← h1]; exact upd_ne _ _ et, by rw [old _ _ (lt_of h2)]; exact h2, h3, h4, fun o ho => ?_⟩
      have : i.blk ≠ w.heap.size := by have := (h.blkT t i h1).2; omega
      simp only [G.withImm, if_neg this]
      exact h5 o ho
  · intro t u i j ht hu hi hj eb
    rcases tokOf t i hi with ⟨rfl, rfl⟩ | ⟨nt, hi⟩ <;> rcases tokOf u j hj with ⟨rfl, rfl⟩ | ⟨nu, hj⟩
    · rfl
    · have := (h.blkT u j hj).2; simp at eb; omega
    · have := (h.blkT t i hi).2; simp at eb; omega
    · exact h.tokInj t u i j (tokk t nt ht) (tokk u nu hu) hi hj eb
  · intro t i hi
    rcases tokOf t i hi with ⟨_, rfl⟩ | ⟨_, hi⟩
    · exact .inr (.inl (Nat.le_refl _))
    · exact .inl ⟨t, i, hi, rfl⟩
theorem WRel.newTok (cvs : Array Value) (e : TypeId) (n : Nat) :
    WRel B { g.withImm w.heap.size (cvs.toList.take n) with tok := upd g.tok st.next (some ⟨w.heap.size, n, cvs.size⟩) } st.newT (w.alloc (.cells cvs e)) ∧
      Step g w { g.withImm w.heap.size (cvs.toList.take n) with tok := upd g.tok st.next (some ⟨w.heap.size, n, cvs.size⟩) } (w.alloc (.cells cvs e)) :=
  h.newTokF cvs e n (0, 0) (.inl rfl)
theorem WRel.kill (t : Nat) : WRel B g (st.killT t) w := by
  have tokk : ∀ u, (st.killT t).tok u = true → st.tok u = true := by
    intro u hu
    by_cases e : u = t
    · subst e; simp [St.killT] at hu
    · simpa [St.killT, upd_ne _ _ e] using hu
  refine ⟨h.base, h.fresh0, h.blkO, h.blkT, h.inj, ?_, h.noImm, h.cells, h.maps, h.imm, fun u hu => h.tok u (tokk u hu), fun u v i j hu hv => h.tokInj u v i j (tokk u hu) (tokk v hv), h.lo, h.glob⟩
  · intro i b u k hi hu; exact h.objTok i b u k hi (tokk u hu)
theorem WRel.appendTok {t : Nat} {i : TokI} (ht : st.tok t = true) (hi : g.tok t = some i) {cur : Array Value} {e : TypeId} {fr : Nat × Nat}
    (hb : w.heap[i.blk]? = some (.cells cur e fr)) (new : List Value) (hlim : i.fill + new.length ≤ i.lim) (hcur : i.lim ≤ cur.size) :
    let g' : G := { g with imm := (fun x o => if x = i.blk ∧ i.fill ≤ o ∧ o < i.fill + new.length then new[o - i.fill]? else g.imm x o), tok := upd g.tok st.next (some ⟨i.blk, i.fill + new.length, i.lim⟩) }
    WRel B g' (st.killT t).newT (w.setRow i.blk (repl cur.toList i.fill new).toArray) ∧ Step g w g' (w.setRow i.blk (repl cur.toList i.fill new).toArray) := by
  intro g'
  have hn := h.fresh st.next (Nat.le_refl _)
  have hsz : (repl cur.toList i.fill new).toArray.size = cur.size := by
    simp only [List.size_toArray]
    rw [length_repl _ _ _ (by simp; omega)]; simp
  obtain ⟨i0, cur0, e0, fr0, q1, q2, q3, q4, q5⟩ := h.tok t ht
  obtain rfl : i0 = i := Option.some.inj (q1.symm.trans hi)
  rw [hb] at q2
  simp only [Option.some.injEq, Obj.cells.injEq] at q2
  obtain ⟨rfl, rfl, rfl⟩ := q2
  have tlt : t ≠ st.next := fun e => by subst e; rw [hn.2.2.2.2] at ht; cases ht
  have hother : ∀ k, k ≠ i0.blk → (w.setRow i0.blk (repl cur.toList i0.fill new).toArray).heap[k]? = w.heap[k]? := fun k hk => by rw [heap_setRow w i0.blk _ cur e fr hb, if_neg hk]
  have le : g.le g' := by
    refine ⟨rfl, fun _ _ h => h, fun u j hj => ?_, fun b o v hv => ?_⟩
    · have : u ≠ st.next := fun e => by subst e; rw [hn.2.1] at hj; cases hj
      simpa [g', upd_ne _ _ this] using hj
    · by_cases hc : b = i0.blk ∧ i0.fill ≤ o ∧ o < i0.fill + new.length
      · have := q5 o hc.2.1
        rw [hc.1, this] at hv; cases hv
      · show (if _ then _ else _) = _
        rw [if_neg hc]; exact hv
  have tokOf : ∀ u j, upd g.tok st.next (some ⟨i0.blk, i0.fill + new.length, i0.lim⟩) u = some j → (u = st.next ∧ j = ⟨i0.blk, i0.fill + new.length, i0.lim⟩) ∨ (u ≠ st.next ∧ g.tok u = some j) := by
    intro u j hj
    by_cases eu : u = st.next
    · subst eu; simp at hj; exact .inl ⟨rfl, hj.symm⟩
    · rw [upd_ne _ _ eu] at hj; exact .inr ⟨eu, hj⟩
  have livek : ∀ k, (st.killT t).newT.live k → st.live k := by
    intro k hk
    exact hk
  have tokk : ∀ u, u ≠ st.next → (st.killT t).newT.tok u = true → u ≠ t ∧ st.tok u = true := by
    intro u e hu
    have hu' : upd st.tok t false u = true := by simpa [St.newT, St.killT, upd_ne _ _ e] using hu
    by_cases e2 : u = t
    · subst e2; simp at hu'
    · exact ⟨e2, by simpa [upd_ne _ _ e2] using hu'⟩
  refine ⟨⟨?_, ?_, ?_, ?_, ?_, ?_, ?_, ?_, ?_, ?_, ?_, ?_, h.lo, fun k cs hk j c hj => le.imm _ _ _ (h.glob k cs hk j c hj)⟩, ⟨le, by rw [size_setRow']; exact Nat.le_refl _, rfl, rfl, rfl, ?_, fun _ _ h => .inl h, ?_, ?_, fun x o v hv => by
    by_cases e : x = i0.blk
    · exact .inr (.inr (.inr ⟨t, i0, hi, e.symm⟩))
    · have hv' : (if x = i0.blk ∧ i0.fill ≤ o ∧ o < i0.fill + new.length then new[o - i0.fill]? else g.imm x o) = some v := hv
      rw [if_neg (fun hh => e hh.1)] at hv'; exact .inl hv'⟩⟩
  · rw [size_setRow']; exact h.base
  · intro k hk
    simp only [St.newT, St.killT] at hk
    have ne : k ≠ st.next := by omega
    obtain ⟨h1, h2, h3, h4, h5⟩ := h.fresh k (by omega)
    exact ⟨h1, by simp [g', upd_ne _ _ ne, h2]⟩
  · intro k b hk; rw [size_setRow']; exact h.blkO k b hk
  · intro u j hj
    rw [size_setRow']
    rcases tokOf u j hj with ⟨_, rfl⟩ | ⟨_, hj⟩
    · exact h.blkT t i0 hi
    · exact h.blkT u j hj
  · intro x y b hx hy; exact h.inj x y b (livek x hx) (livek y hy)
  · intro x b u k hx hu hxb hk
    rcases tokOf u k hk with ⟨rfl, rfl⟩ | ⟨nu, hk⟩
    · exact h.objTok x b t i0 (livek x hx) ht hxb hi
    · exact h.objTok x b u k (livek x hx) (tokk u nu hu).2 hxb hk
  · intro x b o hx hxb
    have : ¬ (b = i0.blk ∧ i0.fill ≤ o ∧ o < i0.fill + new.length) := fun hh => h.objTok x b t i0 (livek x hx) ht hxb hi hh.1.symm
    show (if _ then _ else _) = _
    rw [if_neg this]
    exact h.noImm x b o (livek x hx) hxb
  · intro k ks hks
    obtain ⟨b', c', e', f', h1, h2, h3, h4, h5⟩ := h.cells k ks hks
    have : b' ≠ i0.blk := fun eb => h.objTok k b' t i0 (.inl (by rw [show st.cells k = some ks from hks]; rfl)) ht h1 hi eb.symm
    exact ⟨b', c', e', f', h1, by rw [hother _ this]; exact h2, h3, h4.mono le, h5⟩
  · intro k m hm
    obtain ⟨b', es, cl, h1, h2, ⟨h3, h4⟩, hst⟩ := h.maps k m hm
    have : b' ≠ i0.blk := fun eb => by rw [eb, hb] at h2; cases h2
    exact ⟨b', es, cl, h1, by rw [hother _ this]; exact h2, ⟨h3.mono le, h4.mono le⟩, hst⟩
  · intro x o v hv
    have hv' : (if x = i0.blk ∧ i0.fill ≤ o ∧ o < i0.fill + new.length then new[o - i0.fill]? else g.imm x o) = some v := hv
    by_cases hx : x = i0.blk
    · subst hx
      have hcell : (w.setRow i0.blk (repl cur.toList i0.fill new).toArray).cell? ⟨i0.blk, o, none⟩ = (repl cur.toList i0.fill new)[o]? := by
        simp only [World.cell?, heap_setRow w i0.blk _ cur e fr hb, if_true]
        simp
      rw [hcell, getElem?_repl _ _ _ (by simp; omega)]
      by_cases hr : i0.fill ≤ o ∧ o < i0.fill + new.length
      · rw [if_pos ⟨rfl, hr⟩] at hv'
        rw [if_pos hr]; exact hv'
      · rw [if_neg (fun hh => hr hh.2)] at hv'
        rw [if_neg hr]
        have := h.imm _ _ _ hv'
        simp only [World.cell?, hb] at this
        simpa using this
    · rw [if_neg (fun hh => hx hh.1)] at hv'
      rw [cell_setRow_other _ _ _ _ hx]
      exact h.imm x o v hv'
  · intro u hu
    by_cases eu : u = st.next
    · subst eu
      refine ⟨⟨i0.blk, i0.fill + new.length, i0.lim⟩, (repl cur.toList i0.fill new).toArray, e, fr, by simp [g'], by rw [heap_setRow w i0.blk _ cur e fr hb, if_pos rfl], by rw [hsz]; exact q3, by rw [hsz]; exact q4, fun o ho => ?_⟩
      have ho' : i0.fill + new.length ≤ o := ho
      show (if _ then _ else _) = _
      rw [if_neg (by intro hh; omega)]
      exact q5 o (by omega)
    · obtain ⟨nt, hu'⟩ := tokk u eu hu
      obtain ⟨j, c', e', f', h1, h2, h3, h4, h5⟩ := h.tok u hu'
      have : j.blk ≠ i0.blk := fun eb => nt (h.tokInj u t j i0 hu' ht h1 hi eb)
      refine ⟨j, c', e', f', by rw [← h1]; exact upd_ne _ _ eu, by rw [hother _ this]; exact h2, h3, h4, fun o ho => ?_⟩
      show (if _ then _ else _) = _
      rw [if_neg (fun hh => this hh.1)]
      exact h5 o ho
  · intro u v j k hu hv hj hk eb
    rcases tokOf u j hj with ⟨rfl, rfl⟩ | ⟨nu, hj⟩ <;> rcases tokOf v k hk with ⟨rfl, rfl⟩ | ⟨nv, hk⟩
    · rfl
    · obtain ⟨nt, hv'⟩ := tokk v nv hv
      exact absurd (h.tokInj v t k i0 hv' ht hk hi eb.symm) nt
    · obtain ⟨nt, hu'⟩ := tokk u nu hu
      exact absurd (h.tokInj u t j i0 hu' ht hj hi eb) nt
    · exact h.tokInj u v j k (tokk u nu hu).2 (tokk v nv hv).2 hj hk eb
  · intro b hb
    refine hother b (fun e => ?_)
    have := (h.blkT t i0 hi).1
    have := h.lo
    omega
  · intro u j hj
    rcases tokOf u j hj with ⟨_, rfl⟩ | ⟨_, hj⟩
    · exact .inl ⟨t, i0, hi, rfl⟩
    · exact .inl ⟨u, j, hj, rfl⟩
  · intro b hb1 _ hno
    exact .inl (hother b (fun e => hno t i0 hi e.symm))
theorem WRel.setMap {id b : Nat} {m m' : List (V × V)} {es es' : Array MapEntry} {cl cl' : Nat}
    (hc : st.maps id = some m) (ho : g.obj id = some b) (hb : w.heap[b]? = some (.map es cl)) (hr : MR g m' es'.toList) (hs : MapKept.Stamped es' cl') :
    WRel B g (st.setM id m') { w with heap := w.heap.setIfInBounds b (.map es' cl') } ∧ Step g w g { w with heap := w.heap.setIfInBounds b (.map es' cl') } := by
  have hlt : b < w.heap.size := (Array.getElem?_eq_some_iff.1 hb).1
  have live : st.live id := .inr (by rw [hc]; rfl)
  have livek : ∀ k, (st.setM id m').live k → st.live k := by
    intro k hk
    by_cases e : k = id
    · subst e; exact live
    · rcases hk with hk | hk
      · left; exact hk
      · right; simpa [St.setM, upd_ne _ _ e] using hk
  have hp : ∀ k, (w.heap.setIfInBounds b (.map es' cl'))[k]? = if k = b then some (.map es' cl') else w.heap[k]? := by
    intro k
    rw [Array.getElem?_setIfInBounds]
    by_cases e : b = k
    · subst e; simp [hlt]
    · rw [if_neg e, if_neg (fun h => e h.symm)]
  have hcell : ∀ a : Addr, a.block ≠ b → World.cell? { w with heap := w.heap.setIfInBounds b (.map es' cl') } a = w.cell? a := by
    intro a ha
    simp only [World.cell?, hp, if_neg ha]
  refine ⟨⟨?_, ?_, ?_, ?_, ?_, ?_, ?_, ?_, ?_, ?_, ?_, h.tokInj, h.lo, h.glob⟩, ⟨.refl g, by simp, rfl, rfl, rfl, ?_, fun _ _ h => .inl h, fun t i h => .inl ⟨t, i, h, rfl⟩, ?_, fun _ _ _ h => .inl h⟩⟩
  · simpa using h.base
  · intro k hk
    exact h.fresh0 k hk
  · intro k x hx; simpa using h.blkO k x hx
  · intro k x hx; simpa using h.blkT k x hx
  · intro i j x hi hj; exact h.inj i j x (livek i hi) (livek j hj)
  · intro i x t k hi ht; exact h.objTok i x t k (livek i hi) ht
  · intro i x o hi; exact h.noImm i x o (livek i hi)
  · intro k ks hks
    obtain ⟨b', c', e', f', h1, h2, h3, h4, h5⟩ := h.cells k ks hks
    have : b' ≠ b := fun eb => by rw [eb, hb] at h2; cases h2
    exact ⟨b', c', e', f', h1, by show (w.heap.setIfInBounds b _)[b']? = _; rw [hp, if_neg this]; exact h2, h3, h4, h5⟩
  · intro k m2 hm
    by_cases ek : k = id
    · subst ek
      simp only [St.setM, upd_same, hc, Option.map_some, Option.some.injEq] at hm
      subst hm
      exact ⟨b, es', cl', ho, by show (w.heap.setIfInBounds b _)[b]? = _; rw [hp, if_pos rfl], hr, hs⟩
    · simp only [St.setM, upd_ne _ _ ek] at hm
      obtain ⟨b', es2, cl2, h1, h2, h3⟩ := h.maps k m2 hm
      have : b' ≠ b := fun eb => ek (h.inj k id b (.inr (by rw [hm]; rfl)) live (eb ▸ h1) ho)
      exact ⟨b', es2, cl2, h1, by show (w.heap.setIfInBounds b _)[b']? = _; rw [hp, if_neg this]; exact h2, h3⟩
  · intro x o v hv
    have := h.imm x o v hv
    have hx : x ≠ b := fun e => by
      subst e
      have := h.noImm id x o live ho
      rw [this] at hv; cases hv
    rw [hcell _ hx]; exact this
  · intro t ht
    obtain ⟨i, c', e', f', h1, h2, h3, h4, h5⟩ := h.tok t ht
    have : i.blk ≠ b := h.objTok id b t i live ht ho h1
    exact ⟨i, c', e', f', h1, by show (w.heap.setIfInBounds b _)[i.blk]? = _; rw [hp, if_neg this]; exact h2, h3, h4, h5⟩
  · intro k hk
    have : k ≠ b := fun e => by
      have := (h.blkO id b ho).1
      have := h.lo
      omega
    show (w.heap.setIfInBounds b _)[k]? = _
    rw [hp, if_neg this]
  · intro k hk hno _
    have : k ≠ b := fun e => hno id (e ▸ ho)
    refine .inl ?_
    show (w.heap.setIfInBounds b _)[k]? = _
    rw [hp, if_neg this]
end new
end Go.Sim
