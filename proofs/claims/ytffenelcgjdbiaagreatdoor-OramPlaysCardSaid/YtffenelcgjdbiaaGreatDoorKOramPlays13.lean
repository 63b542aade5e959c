/- Merged by a program of mine (pack.py) out of my own texts; what is not used is left out. -/
import Derived.Test.YtffenelcgjdbiaaGreatDoorKOramPlays12
set_option linter.unusedVariables false
set_option linter.unusedSimpArgs false
namespace Go.Sim
open Go
def St.killC (st : St) (id : Nat) : St where
  next := st.next
  cells := upd st.cells id none
  maps := st.maps
  tok := st.tok
  wf k h := by
    obtain ⟨h1, h2, h3⟩ := st.wf k h
    refine ⟨?_, h2, h3⟩
    by_cases e : k = id
    · subst e; simp
    · rw [upd_ne _ _ e]; exact h1
def chunks (sz : Nat) : Nat → List V → List V
  | 0, _ => []
  | n + 1, cs => .agg (cs.take sz) :: chunks sz n (cs.drop sz)
def frz0 (agg : Bool) (sz off len cap : Nat) (cs : List V) : Option (List V) :=
  if len ≤ cap ∧ off + cap * sz ≤ cs.length ∧ (agg = true ∨ sz = 1) then some (if agg then chunks sz len (cs.drop off) else (cs.drop off).take len) else none
def frzL (agg : Bool) (sz off len cap : Nat) (cs : List V) : Option (List V) := (frz0 agg sz off len cap cs).map fun l => l.map V.wk
theorem flat_chunks (sz : Nat) : ∀ (n : Nat) (cs : List V), flat (chunks sz n cs) = cs.take (n * sz) := by
  intro n
  induction n with
  | zero => intro cs; simp [chunks, flat]
  | succ n ih =>
    intro cs
    have := ih (cs.drop sz)
    simp only [flat] at this
    simp only [chunks, flat, List.flatMap_cons, V.cells, this]
    rw [Nat.succ_mul, Nat.add_comm, List.take_add]
theorem chunks_len (sz : Nat) : ∀ (n : Nat) (cs : List V), (chunks sz n cs).length = n := by
  intro n
  induction n with
  | zero => intro cs; rfl
  | succ n ih => intro cs; simp [chunks, ih]
theorem chunks_sz (sz : Nat) : ∀ (n : Nat) (cs : List V), n * sz ≤ cs.length → ∀ e ∈ chunks sz n cs, e.cells.length = sz := by
  intro n
  induction n with
  | zero => intro cs _ e he; simp [chunks] at he
  | succ n ih =>
    intro cs h e he
    rw [Nat.succ_mul] at h
    rcases List.mem_cons.1 he with rfl | he
    · simp only [V.cells, List.length_take]; omega
    · exact ih (cs.drop sz) (by simp; omega) e he
theorem flat_ones : ∀ (l : List V), (∀ v ∈ l, v.one = true) → flat l = l := by
  intro l
  induction l with
  | nil => intro _; rfl
  | cons v l ih =>
    intro h
    have := ih fun u hu => h u (List.mem_cons_of_mem _ hu)
    simp only [flat] at this
    simp only [flat, List.flatMap_cons, this]
    have hv := h v List.mem_cons_self
    cases v <;> first | rfl | (simp [V.one] at hv)
def G.withFrz (g : G) (b fill : Nat) (cvs : List Value) (t lim : Nat) : G :=
  { g with imm := fun x o => if x = b ∧ o < fill then cvs[o]? else g.imm x o, tok := upd g.tok t (some ⟨b, fill, lim⟩) }
theorem WRel.frz {B : Env} {g : G} {st : St} {w : World} (h : WRel B g st w) {id b : Nat} {cs : List V} (hc : st.cells id = some cs) (ho : g.obj id = some b) {agg : Bool} {sz off len cap : Nat} {l : List V} (hl : frzL agg sz off len cap cs = some l) :
    ∃ g', WRel B g' (st.killC id).newT w ∧ Step g w g' w ∧ VRel g' (.lst sz l (.tail st.next)) (.slice (some ⟨b, off, none⟩) len cap) ∧
      ∃ cv : List Value, LR (VRel g') cs cv ∧ (∀ v ∈ cs, v.one = true) ∧ ∀ j c, j < off + len * sz → cv[j]? = some c → g'.imm b j = some c := by
  obtain ⟨b', cvs, e, fr, h1, h2, h3, h4, h5⟩ := h.cells id cs hc
  obtain rfl : b' = b := Option.some.inj (h1.symm.trans ho)
  have live : st.live id := .inl (by rw [hc]; rfl)
  unfold frzL at hl
  simp only [Option.map_eq_some_iff] at hl
  obtain ⟨l, hl, rfl⟩ := hl
  unfold frz0 at hl
  split at hl
  · rename_i hle
    obtain ⟨hlc, hle, hag⟩ := hle
    simp only [Option.some.injEq] at hl
    have hls : off + len * sz ≤ cs.length := by have := Nat.mul_le_mul_right sz hlc; omega
    have hfresh := h.fresh st.next (Nat.le_refl _)
    have hcz : cs.length = cvs.size := by have := h4.1; simpa using this
    generalize hfill : off + len * sz = fill at hls
    generalize hlim : off + cap * sz = lim at hle
    have hfl2 : fill ≤ lim := by have := Nat.mul_le_mul_right sz hlc; omega
    have le : g.le (g.withFrz b' fill cvs.toList st.next lim) := ⟨rfl, fun _ _ h => h, fun t i hi => by
      have : t ≠ st.next := fun e => by subst e; rw [hfresh.2.1] at hi; cases hi
      simpa [G.withFrz, upd_ne _ _ this] using hi, fun x o v hv => by
      have : x ≠ b' := fun e => by subst e; rw [h.noImm id x o live ho] at hv; cases hv
      simpa [G.withFrz, this] using hv⟩
    have livek : ∀ k, (st.killC id).newT.live k → st.live k := by
      intro k hk
      rcases hk with hk | hk
      · left
        by_cases e : k = id
        · subst e; simp [St.killC, St.newT] at hk
        · simpa [St.killC, St.newT, upd_ne _ _ e] using hk
      · right; exact hk
    have hmap : st.maps id = none := by
      cases hm : st.maps id with
      | none => rfl
      | some m =>
        obtain ⟨b2, es, cl, k1, k2, _⟩ := h.maps id m hm
        rw [ho] at k1; cases k1
        rw [h2] at k2; cases k2
    have dead : ∀ k, (st.killC id).newT.live k → k ≠ id := by
      intro k hk e
      subst e
      rcases hk with hk | hk
      · simp [St.killC, St.newT] at hk
      · rw [show (st.killC k).newT.maps = st.maps from rfl, hmap] at hk; cases hk
    have tokk : ∀ t, t ≠ st.next → (st.killC id).newT.tok t = true → st.tok t = true := by
      intro t e ht
      simpa [St.newT, St.killC, upd_ne _ _ e] using ht
    have tokOf : ∀ t i, (g.withFrz b' fill cvs.toList st.next lim).tok t = some i → (t = st.next ∧ i = ⟨b', fill, lim⟩) ∨ (t ≠ st.next ∧ g.tok t = some i) := by
      intro t i hi
      by_cases et : t = st.next
      · subst et; simp [G.withFrz] at hi; exact .inl ⟨rfl, hi.symm⟩
      · simp only [G.withFrz, upd_ne _ _ et] at hi; exact .inr ⟨et, hi⟩
    have hnew : (g.withFrz b' fill cvs.toList st.next lim).tok st.next = some ⟨b', fill, lim⟩ := by simp [G.withFrz]
    refine ⟨g.withFrz b' fill cvs.toList st.next lim, ⟨h.base, ?_, h.blkO, ?_, fun i j b hi hj => h.inj i j b (livek i hi) (livek j hj), ?_, ?_, ?_, ?_, ?_, ?_, ?_, h.lo, fun k cs hk j c hj => le.imm _ _ _ (h.glob k cs hk j c hj)⟩,
      ⟨le, Nat.le_refl _, rfl, rfl, rfl, fun _ _ => rfl, fun _ _ h => .inl h, ?_, fun _ _ _ _ => .inl rfl, ?_⟩, ?_, cvs.toList, h4.mono le, h5, ?_⟩
    · intro k hk
      simp only [St.newT, St.killC] at hk
      have ne : k ≠ st.next := by omega
      obtain ⟨q1, q2, q3, q4, q5⟩ := h.fresh k (by omega)
      exact ⟨q1, by simp [G.withFrz, upd_ne _ _ ne, q2]⟩
    · intro t i hi
      rcases tokOf t i hi with ⟨_, rfl⟩ | ⟨_, hi⟩
      · exact h.blkO id b' ho
      · exact h.blkT t i hi
    · intro i b t k hi ht hib hk
      rcases tokOf t k hk with ⟨rfl, rfl⟩ | ⟨nt, hk⟩
      · intro e
        exact dead i hi (h.inj i id b (livek i hi) live hib (by rw [← e]; exact ho))
      · exact h.objTok i b t k (livek i hi) (tokk t nt ht) hib hk
    · intro i x o hi hx
      have : x ≠ b' := fun e => by
        subst e
        exact dead i hi (h.inj i id x (livek i hi) live hx ho)
      simp only [G.withFrz, this, false_and, if_false]
      exact h.noImm i x o (livek i hi) hx
    · intro k ks hks
      have hk : k ≠ id := fun e => by subst e; simp [St.killC, St.newT] at hks
      simp only [St.killC, St.newT, upd_ne _ _ hk] at hks
      obtain ⟨b2, c2, e2, f2, k1, k2, k3, k4, k5⟩ := h.cells k ks hks
      exact ⟨b2, c2, e2, f2, k1, k2, k3, k4.mono le, k5⟩
    · intro k m hm
      obtain ⟨b2, es, cl, k1, k2, ⟨k3, k4⟩, hst⟩ := h.maps k m hm
      exact ⟨b2, es, cl, k1, k2, ⟨k3.mono le, k4.mono le⟩, hst⟩
    · intro x o v hv
      by_cases e : x = b' ∧ o < fill
      · obtain ⟨e, e2⟩ := e
        subst e
        simp only [G.withFrz, true_and, e2, if_true] at hv
        simp only [World.cell?, h2]
        simpa using hv
      · simp only [G.withFrz, if_neg e] at hv
        exact h.imm x o v hv
    · intro t ht
      by_cases et : t = st.next
      · subst et
        refine ⟨⟨b', fill, lim⟩, cvs, e, fr, hnew, h2, h3, by show lim ≤ cvs.size; omega, fun o ho' => ?_⟩
        have ho2 : ¬ o < fill := by have : fill ≤ o := ho'; omega
        simp only [G.withFrz, ho2, and_false, if_false]
        exact h.noImm id b' o live ho
      · obtain ⟨i, c2, e2, f2, k1, k2, k3, k4, k5⟩ := h.tok t (tokk t et ht)
        refine ⟨i, c2, e2, f2, by simp [G.withFrz, upd_ne _ _ et, k1], k2, k3, k4, fun o ho' => ?_⟩
        have : i.blk ≠ b' := h.objTok id b' t i live (tokk t et ht) ho k1
        simp only [G.withFrz, this, false_and, if_false]
        exact k5 o ho'
    · intro t u i j ht hu hi hj hij
      rcases tokOf t i hi with ⟨rfl, rfl⟩ | ⟨nt, hi'⟩
      · rcases tokOf u j hj with ⟨rfl, rfl⟩ | ⟨nu, hj'⟩
        · rfl
        · exact absurd hij.symm (h.objTok id b' u j live (tokk u nu hu) ho hj')
      · rcases tokOf u j hj with ⟨rfl, rfl⟩ | ⟨nu, hj'⟩
        · exact absurd hij (h.objTok id b' t i live (tokk t nt ht) ho hi')
        · exact h.tokInj t u i j (tokk t nt ht) (tokk u nu hu) hi' hj' hij
    · intro t i hi
      rcases tokOf t i hi with ⟨rfl, rfl⟩ | ⟨nt, hi⟩
      · exact .inr (.inr ⟨id, ho⟩)
      · exact .inl ⟨t, i, hi, rfl⟩
    · intro x o v hv
      by_cases e : x = b' ∧ o < fill
      · exact .inr (.inr (.inl ⟨id, by rw [e.1]; exact ho⟩))
      · simp only [G.withFrz, if_neg e] at hv
        exact .inl hv
    · refine VRel.dwk ?_
      have hones : ∀ v ∈ (cs.drop off).take (len * sz), v.one = true := fun v hv => h5 v (List.mem_of_mem_drop (List.mem_of_mem_take hv))
      have hfl : flat l = (cs.drop off).take (len * sz) ∧ l.length = len ∧ ∀ e ∈ l, e.cells.length = sz := by
        cases agg
        · have hs1 : sz = 1 := by simpa using hag
          subst hs1
          simp only [Bool.false_eq_true, if_false] at hl
          subst hl
          rw [Nat.mul_one] at hones ⊢
          rw [Nat.mul_one] at hfill
          refine ⟨flat_ones _ hones, by simp; omega, ?_⟩
          intro e he
          have := hones e he
          cases e <;> first | rfl | (simp [V.one] at this)
        · simp only [if_true] at hl
          subst hl
          exact ⟨flat_chunks sz len _, chunks_len sz len _, chunks_sz sz len _ (by simp; omega)⟩
      obtain ⟨hf, hn, hs⟩ := hfl
      have hlr : LR (VRel (g.withFrz b' fill cvs.toList st.next lim)) ((cs.drop off).take (len * sz)) ((cvs.toList.drop off).take (len * sz)) := ((h4.drop off).take _).mono le
      refine .lst (cvs := (cvs.toList.drop off).take (len * sz)) hn.symm hs (by rw [hf]; exact hones) ?_ ?_ (by rw [hf]; exact hlr.1) (by rw [hf]; exact hlr.2)
      · refine ⟨b', off, lim, rfl, ?_, hlc, by omega, by have := (h.blkO id b' ho).1; have := h.lo; show g.lo ≤ b'; omega⟩
        rw [hnew, hfill]
      intro j c hj
      refine ⟨b', off, rfl, ?_⟩
      rw [List.getElem?_take] at hj
      split at hj
      · rename_i hjl
        rw [List.getElem?_drop] at hj
        have : off + j < fill := by omega
        simp only [G.withFrz, true_and, this, if_true]
        exact hj
      · cases hj
    · intro j c hj hc
      have : j < fill := by omega
      simp only [G.withFrz, true_and, this, if_true]
      exact hc
  · cases hl
theorem WRel.frzp {B : Env} {g : G} {st : St} {w : World} (h : WRel B g st w) {id b : Nat} {cs : List V} (hc : st.cells id = some cs) (ho : g.obj id = some b) :
    ∃ g', WRel B g' (st.killC id).newT w ∧ Step g w g' w ∧ VRel g' (.ep cs) (.pointer (some ⟨b, 0, none⟩)) := by
  obtain ⟨g', h1, h2, _, cv, h3, h4, h5⟩ := h.frz (agg := false) (sz := 1) (off := 0) (len := cs.length) (cap := cs.length) (l := cs.map V.wk) hc ho (by simp [frzL, frz0])
  refine ⟨g', h1, h2, .ep h4 ?_ h3.1 h3.2⟩
  intro j c hj
  refine ⟨b, 0, rfl, ?_⟩
  rw [Nat.zero_add]
  refine h5 j c ?_ hj
  have := (List.getElem?_eq_some_iff.1 hj).1
  rw [← h3.1] at this
  omega
end Go.Sim
