/- Merged by a program of mine (pack.py) out of my own texts; what is not used is left out. -/
import Derived.Test.YtffenelcgjdbiaaGreatDoorKOramPlays30
import Derived.Orders
set_option linter.unusedVariables false
set_option linter.unusedSimpArgs false
namespace Go.Sim
open Go
def sub (a b : Nat) : Bool := (a ||| b) == b
theorem sub_spec {a b : Nat} (h : sub a b = true) {k : Nat} (hk : a.testBit k = true) : b.testBit k = true := by
  simp only [sub, beq_iff_eq] at h
  rw [← h, Nat.testBit_or, hk, Bool.true_or]
theorem inM_add {E i k : Nat} : (E ||| 2 ^ i).testBit k = true ↔ E.testBit k = true ∨ k = i := by
  rw [Nat.testBit_or, Nat.testBit_two_pow, Bool.or_eq_true, decide_eq_true_eq]
  constructor
  · rintro (h | h)
    · exact .inl h
    · exact .inr h.symm
  · rintro (h | h)
    · exact .inl h
    · exact .inr h.symm
def preds (o : Oper) : List Nat := (o.after.toList.filter (Region.binds .any)).map (·.on)
def unionT (T : List Nat) : List Nat → Nat
  | [] => 0
  | j :: r => (2 ^ j ||| T.getD j 0) ||| unionT T r
def chkTs (T : List Nat) : List Oper → List Nat → Bool
  | [], [] => true
  | o :: r, t :: ts => (unionT T (preds o) == t) && chkTs T r ts
  | _, _ => false
theorem chkTs_get {T : List Nat} {l : List Oper} {ts : List Nat} (h : chkTs T l ts = true) {i : Nat} {o : Oper} (ho : l[i]? = some o) : ts.getD i 0 = unionT T (preds o) := by
  induction l generalizing ts i with
  | nil => simp at ho
  | cons x l ih =>
    cases ts with
    | nil => simp [chkTs] at h
    | cons t ts =>
      simp only [chkTs, Bool.and_eq_true, beq_iff_eq] at h
      cases i with
      | zero => simp at ho; subst ho; simp [h.1]
      | succ i => simpa using ih h.2 (by simpa using ho)
theorem unionT_spec {T : List Nat} {ps : List Nat} {k : Nat} : (unionT T ps).testBit k = true ↔ ∃ j ∈ ps, j = k ∨ (T.getD j 0).testBit k = true := by
  induction ps with
  | nil => simp [unionT]
  | cons j r ih =>
    simp only [unionT, Nat.testBit_or, Nat.testBit_two_pow, Bool.or_eq_true, decide_eq_true_eq, ih, List.mem_cons, exists_eq_or_imp]
def writerOf : List Oper → Nat → Nat → Option Nat
  | [], _, _ => none
  | o :: r, k, d => if o.dst = some d then some k else writerOf r (k + 1) d
theorem writerOf_get {l : List Oper} {k d j : Nat} (h : writerOf l k d = some j) : k ≤ j ∧ ∃ o, l[j - k]? = some o ∧ o.dst = some d := by
  induction l generalizing k with
  | nil => simp [writerOf] at h
  | cons o r ih =>
    simp only [writerOf] at h
    by_cases e : o.dst = some d
    · rw [if_pos e] at h
      cases h
      exact ⟨Nat.le_refl _, o, by simp, e⟩
    · rw [if_neg e] at h
      obtain ⟨h1, o', h2, h3⟩ := ih h
      refine ⟨by omega, o', ?_, h3⟩
      rw [show j - k = (j - (k + 1)) + 1 by omega, List.getElem?_cons_succ]
      exact h2
def chkDst (all : List Oper) : Nat → List Oper → Bool
  | _, [] => true
  | k, o :: r => (match o.dst with | some d => writerOf all 0 d == some k | none => true) && chkDst all (k + 1) r
theorem chkDst_get {all l : List Oper} {k : Nat} (h : chkDst all k l = true) {i : Nat} {o : Oper} {d : Nat} (ho : l[i]? = some o) (hd : o.dst = some d) : writerOf all 0 d = some (k + i) := by
  induction l generalizing k i with
  | nil => simp at ho
  | cons x l ih =>
    simp only [chkDst, Bool.and_eq_true] at h
    cases i with
    | zero =>
      simp at ho; subst ho
      have := h.1
      rw [hd] at this
      simpa using this
    | succ i =>
      have := ih h.2 (by simpa using ho)
      rw [this]; congr 1; omega
def isFlt (s : AS) : Bool := match s.op with | .op o => isPure o || isLoad o | _ => false
def isPu (s : AS) : Bool := match s.op with | .op o => isPure o | _ => false
def isAl (s : AS) : Bool := match s.op, s.guard, s.dst with | .op (.alloc _), none, some _ => true | _, _, _ => false
section chk
variable (P : Program) (N : Nat) (ops : List Oper) (T : List Nat) (AN AL : Nat)
def roOk (f : Nat) (s : AS) : Bool := (asR s).all fun r => match writerOf ops 0 r with
  | none => true
  | some j => (T.getD f 0).testBit j || (AN.testBit j && (T.getD j 0).testBit f) || (j == f && AN.testBit f)
def matchS (i : Nat) (s : AS) : Bool := match ops[i]? with | some o => chkS P N ops o s | none => false
def base (E i : Nat) (s : AS) : Bool := matchS P N ops i s && !E.testBit i && sub (T.getD i 0) E && roOk ops T AN i s
def reAll : List (Nat × AS) → Bool
  | [] => true
  | x :: r => matchS P N ops x.1 x.2 && isFlt x.2 && roOk ops T AN x.1 x.2 && reAll r
def reMask : List (Nat × AS) → Nat
  | [] => 0
  | x :: r => 2 ^ x.1 ||| reMask r
def chkI : Nat → Nat → Nat → List DI → Bool
  | E, _, _, [] => E == 2 ^ ops.length - 1
  | E, L, F, .fl i s :: r => base P N ops T AN E i s && isFlt s && !AN.testBit i && !AL.testBit i && sub F (T.getD i 0) && chkI (E ||| 2 ^ i) (if isPu s then L else L ||| 2 ^ i) F r
  | E, L, F, .al i s :: r => base P N ops T AN E i s && isAl s && AL.testBit i && !AN.testBit i && chkI (E ||| 2 ^ i) L (F ||| 2 ^ i) r
  | E, L, F, .an i s re :: r => base P N ops T AN E i s && AN.testBit i && !AL.testBit i && sub F (T.getD i 0) && reAll P N ops T AN re && sub L (T.getD i 0 ||| reMask re) && chkI (E ||| 2 ^ i) L (F ||| 2 ^ i) r
def chkD (ops : Array Oper) (T : List Nat) (AN AL : Nat) (ds : List DI) : Bool :=
  P.follows .mixedOrders && chkTs T ops.toList T && chkDst ops.toList 0 ops.toList && chkI P N ops.toList T AN AL 0 0 0 ds
theorem reMask_spec {re : List (Nat × AS)} {k : Nat} (h : (reMask re).testBit k = true) : ∃ s, (k, s) ∈ re := by
  induction re with
  | nil => simp [reMask] at h
  | cons x r ih =>
    simp only [reMask, Nat.testBit_or, Nat.testBit_two_pow, Bool.or_eq_true, decide_eq_true_eq] at h
    rcases h with h | h
    · exact ⟨x.2, by rw [← h]; exact List.mem_cons_self⟩
    · obtain ⟨s, hs⟩ := ih h
      exact ⟨s, List.mem_cons_of_mem _ hs⟩
theorem reAll_spec {re : List (Nat × AS)} (h : reAll P N ops T AN re = true) {k : Nat} {s : AS} (hs : (k, s) ∈ re) : matchS P N ops k s = true ∧ isFlt s = true ∧ roOk ops T AN k s = true := by
  induction re with
  | nil => simp at hs
  | cons x r ih =>
    simp only [reAll, Bool.and_eq_true] at h
    rcases List.mem_cons.1 hs with e | e
    · subst e; exact ⟨h.1.1.1, h.1.1.2, h.1.2⟩
    · exact ih h.2 e
end chk
theorem reOk_spec {fr : Fr} {st : St} {re : List (Nat × AS)} (h : reOk fr st re) {k : Nat} {s : AS} (hs : (k, s) ∈ re) : Fact s fr st := by
  induction re with
  | nil => simp at hs
  | cons x r ih =>
    rcases List.mem_cons.1 hs with e | e
    · subst e; exact h.1
    · exact ih h.2 e
structure Pend (g : G) (w : World) (n0 b : Nat) (cs : List Value) : Prop where
  ge : n0 ≤ b
  lt : b < w.heap.size
  obj : ∀ id, g.obj id ≠ some b
  tok : ∀ t i, g.tok t = some i → i.blk ≠ b
  imm : ∀ o, g.imm b o = none
  heap : ∃ cvs e fr, w.heap[b]? = some (.cells cvs e fr) ∧ Free fr cvs.size ∧ cvs.toList = cs
theorem Pend.step {g g' : G} {w w' : World} {n0 b : Nat} {cs : List Value} (h : Pend g w n0 b cs) (hS : Step g w g' w') : Pend g' w' n0 b cs := by
  refine ⟨h.ge, Nat.lt_of_lt_of_le h.lt hS.size, ?_, ?_, ?_, ?_⟩
  · intro id hid
    rcases hS.freshO id b hid with hh | hh
    · exact h.obj id hh
    · have := h.lt; omega
  · intro t i hi e
    rcases hS.freshT t i hi with ⟨u, j, hj, e'⟩ | hh | ⟨id, hh⟩
    · exact h.tok u j hj (e'.trans e)
    · have := h.lt; omega
    · exact h.obj id (e ▸ hh)
  · intro o
    cases hv : g'.imm b o with
    | none => rfl
    | some v =>
      rcases hS.freshI b o v hv with hh | hh | ⟨id, hh⟩ | ⟨t, i, hh, e⟩
      · rw [h.imm] at hh; cases hh
      · have := h.lt; omega
      · exact absurd hh (h.obj id)
      · exact absurd e (h.tok t i hh)
  · obtain ⟨cvs, e, fr, h1, h2, h3⟩ := h.heap
    rcases hS.frame b h.lt h.obj h.tok with hw | ⟨c, e2, f, f', k1, k2, k3⟩
    · exact ⟨cvs, e, fr, by rw [hw]; exact h1, h2, h3⟩
    · rw [h1] at k1
      simp only [Option.some.injEq, Obj.cells.injEq] at k1
      obtain ⟨rfl, rfl, rfl⟩ := k1
      exact ⟨cvs, e, f', k2, k3 h2, h3⟩
section adopt
variable {B : Env} {g : G} {st : St} {w : World}
theorem WRel.adopt (h : WRel B g st w) {cs : List V} {n0 b : Nat} {cvl : List Value} (hp : Pend g w n0 b cvl) (hb : B.n ≤ b) (hr : LR (VRel g) cs cvl) (hone : ∀ v ∈ cs, v.one = true) :
    g.le { g with obj := upd g.obj st.next (some b) } ∧ WRel B { g with obj := upd g.obj st.next (some b) } (st.newC cs) w := by
  have hn := h.fresh st.next (Nat.le_refl _)
  have le : g.le { g with obj := upd g.obj st.next (some b) } :=
    ⟨rfl, fun i b hi => by
      have : i ≠ st.next := fun e => by subst e; rw [hn.1] at hi; cases hi
      simpa [upd_ne _ _ this] using hi, fun _ _ h => h, fun _ _ _ h => h⟩
  have objOf : ∀ i x, upd g.obj st.next (some b) i = some x → (i = st.next ∧ x = b) ∨ (i ≠ st.next ∧ g.obj i = some x) := by
    intro i x hi
    by_cases ei : i = st.next
    · subst ei; simp at hi; exact .inl ⟨rfl, hi.symm⟩
    · rw [upd_ne _ _ ei] at hi; exact .inr ⟨ei, hi⟩
  have livek : ∀ k, (st.newC cs).live k → k = st.next ∨ st.live k := by
    intro k hk
    by_cases e : k = st.next
    · exact .inl e
    · right
      rcases hk with hk | hk
      · left; simpa [St.newC, upd_ne _ _ e] using hk
      · right; simpa [St.newC, upd_ne _ _ e] using hk
  have tokk : ∀ t, (st.newC cs).tok t = true → t ≠ st.next ∧ st.tok t = true := by
    intro t ht
    have ht' : st.tok t = true := ht
    by_cases e : t = st.next
    · subst e; rw [hn.2.2.2.2] at ht'; cases ht'
    · exact ⟨e, ht'⟩
  refine ⟨le, ⟨h.base, ?_, ?_, h.blkT, ?_, ?_, ?_, ?_, ?_, h.imm, ?_, ?_, h.lo, fun k cs hk j c hj => le.imm _ _ _ (h.glob k cs hk j c hj)⟩⟩
  · intro k hk
    simp only [St.newC] at hk
    have ne : k ≠ st.next := by omega
    obtain ⟨h1, h2, h3, h4, h5⟩ := h.fresh k (by omega)
    exact ⟨by simp [upd_ne _ _ ne, h1], h2⟩
  · intro i x hi
    rcases objOf i x hi with ⟨_, rfl⟩ | ⟨_, hi⟩
    · exact ⟨hb, hp.lt⟩
    · exact h.blkO i x hi
  · intro i j x hi hj hib hjb
    rcases objOf i x hib with ⟨rfl, rfl⟩ | ⟨ni, hib⟩ <;> rcases objOf j _ hjb with ⟨rfl, hj2⟩ | ⟨nj, hjb⟩
    · rfl
    · exact absurd hjb (hp.obj j)
    · subst hj2
      rcases objOf i _ hib with ⟨e, _⟩ | ⟨_, hib⟩
      · exact absurd e ni
      · exact absurd hib (hp.obj i)
    · exact h.inj i j x ((livek i hi).resolve_left ni) ((livek j hj).resolve_left nj) hib hjb
  · intro i x t k hi ht hib hk
    rcases objOf i x hib with ⟨rfl, rfl⟩ | ⟨ni, hib⟩
    · exact hp.tok t k hk
    · exact h.objTok i x t k ((livek i hi).resolve_left ni) (tokk t ht).2 hib hk
  · intro i x o hi hib
    rcases objOf i x hib with ⟨rfl, rfl⟩ | ⟨ni, hib⟩
    · exact hp.imm o
    · exact h.noImm i x o ((livek i hi).resolve_left ni) hib
  · intro k ks hks
    by_cases ek : k = st.next
    · subst ek
      simp only [St.newC, upd_same, Option.some.injEq] at hks
      subst hks
      obtain ⟨cvs, e, fr, h1, h2, h3⟩ := hp.heap
      exact ⟨b, cvs, e, fr, by simp, h1, h2, by rw [h3]; exact hr.mono le, hone⟩
    · simp only [St.newC, upd_ne _ _ ek] at hks
      obtain ⟨b', c', e', f', h1, h2, h3, h4, h5⟩ := h.cells k ks hks
      exact ⟨b', c', e', f', le.obj _ _ h1, h2, h3, h4.mono le, h5⟩
  · intro k m hm
    rw [show (st.newC cs).maps = st.maps from rfl] at hm
    obtain ⟨b', es, cl, h1, h2, ⟨h3, h4⟩, hst⟩ := h.maps k m hm
    exact ⟨b', es, cl, le.obj _ _ h1, h2, ⟨h3.mono le, h4.mono le⟩, hst⟩
  · intro t ht
    exact h.tok t (tokk t ht).2
  · intro t u i j ht hu
    exact h.tokInj t u i j (tokk t ht).2 (tokk u hu).2
theorem Step.adopt {g0 : G} {w0 : World} (hS : Step g0 w0 g w) {b : Nat} (hb : w0.heap.size ≤ b) (k : Nat) (hle : g.le { g with obj := upd g.obj k (some b) }) : Step g0 w0 { g with obj := upd g.obj k (some b) } w := by
  refine ⟨hS.le.trans hle, hS.size, hS.os, hS.tape, hS.output, hS.low, ?_, hS.freshT, hS.frame, hS.freshI⟩
  intro id x hx
  by_cases e : id = k
  · subst e; simp at hx; subst hx; exact .inr hb
  · simp only [upd_ne _ _ e] at hx; exact hS.freshO id x hx
end adopt
theorem Fact.congr {s : AS} {fr fr' : Fr} {st : St} (h : Fact s fr st) (hr : ∀ r ∈ asR s, look fr r = look fr' r) (hd : ∀ d, s.dst = some d → look fr d = look fr' d) : Fact s fr' st := by
  unfold Fact at h ⊢
  cases hop : s.op with
  | op o =>
    simp only [hop] at h ⊢
    have he : evalA o fr st = evalA o fr' st := evalA_congr fun i hi => hr i (by simp [asR, hop, sopR, hi])
    have hdd : ∀ v, hasD fr s.dst v = hasD fr' s.dst v := by
      intro v
      unfold hasD
      cases hs : s.dst with
      | none => rfl
      | some d => simp only [hd d hs]
    cases hg : s.guard with
    | none =>
      simp only [hg] at h ⊢
      obtain ⟨v, h1, h2⟩ := h
      exact ⟨v, by rw [← he]; exact h1, by rw [← hdd]; exact h2⟩
    | some p =>
      obtain ⟨j, want⟩ := p
      simp only [hg] at h ⊢
      rw [← hr j (by simp [asR, hg])]
      split
      · rename_i b hb
        simp only [hb] at h
        split
        · rename_i e
          rw [if_pos e] at h
          obtain ⟨v, h1, h2⟩ := h
          exact ⟨v, by rw [← he]; exact h1, by rw [← hdd]; exact h2⟩
        · rename_i e
          rw [if_neg e] at h
          rw [← hdd]; exact h
      · rename_i hn
        simp only [hn] at h
  | _ => simp [hop] at h
theorem Fact.state {s : AS} {fr : Fr} {st st' : St} (h : Fact s fr st) (hs : ∀ o v, s.op = .op o → evalA o fr st = some (v, st) → evalA o fr st' = some (v, st')) : Fact s fr st' := by
  unfold Fact at h ⊢
  cases hop : s.op with
  | op o =>
    simp only [hop] at h ⊢
    cases hg : s.guard with
    | none =>
      simp only [hg] at h ⊢
      obtain ⟨v, h1, h2⟩ := h
      exact ⟨v, hs o v hop h1, h2⟩
    | some p =>
      obtain ⟨j, want⟩ := p
      simp only [hg] at h ⊢
      split
      · rename_i b hb
        simp only [hb] at h
        split
        · rename_i e
          rw [if_pos e] at h
          obtain ⟨v, h1, h2⟩ := h
          exact ⟨v, hs o v hop h1, h2⟩
        · rename_i e
          rw [if_neg e] at h
          exact h
      · rename_i hn
        simp only [hn] at h
  | _ => simp [hop] at h
theorem Fact.pure {s : AS} {fr : Fr} {st st' : St} (h : Fact s fr st) (hp : isPu s = true) : Fact s fr st' :=
  h.state fun o v ho he => (pure_same (by simpa [isPu, ho] using hp) he).2 st'
theorem load_newC {o : AOp} {fr : Fr} {st : St} {v : V} {z : List V} (hp : isLoad o = true) (h : evalA o fr st = some (v, st)) : evalA o fr (st.newC z) = some (v, st.newC z) := by
  have hc : ∀ {id cs}, st.cells id = some cs → (st.newC z).cells id = some cs := by
    intro id cs hcs
    have : id ≠ st.next := fun e => by subst e; rw [(st.wf _ (Nat.le_refl _)).1] at hcs; cases hcs
    simpa [St.newC, upd_ne _ _ this] using hcs
  cases o <;> simp only [isLoad, Bool.false_eq_true, beq_iff_eq] at hp <;> simp only [evalA, Option.bind_eq_some_iff] at h ⊢
  case ld n ag x =>
    obtain ⟨u, hu, h⟩ := h
    refine ⟨u, hu, ?_⟩
    split at h
    · simp only [Option.bind_eq_some_iff] at h ⊢
      obtain ⟨cs, hcs, h⟩ := h
      refine ⟨cs, hc hcs, ?_⟩
      split at h
      · rename_i hle
        rw [if_pos hle]
        simp only [Option.bind_eq_some_iff, Option.some.injEq, Prod.mk.injEq] at h ⊢
        obtain ⟨u', h1, h2, _⟩ := h
        exact ⟨u', h1, h2, trivial⟩
      · cases h
    · split at h
      · rename_i hle
        rw [if_pos hle]
        simp only [Option.bind_eq_some_iff, Option.some.injEq, Prod.mk.injEq] at h ⊢
        obtain ⟨u', h1, h2, _⟩ := h
        exact ⟨u', h1, h2, trivial⟩
      · cases h
    · cases h
  case look z x y ok =>
    obtain ⟨u, hu, w, hw, h⟩ := h
    refine ⟨u, hu, w, hw, ?_⟩
    split at h
    · simp only [Option.bind_eq_some_iff, Option.some.injEq, Prod.mk.injEq] at h ⊢
      obtain ⟨m, hm, r, hr, h1, _⟩ := h
      exact ⟨m, hm, r, hr, h1, trivial⟩
    · simp only [Option.some.injEq, Prod.mk.injEq] at h ⊢
      exact ⟨h.1, trivial⟩
    · cases h
  case len k x =>
    obtain ⟨u, hu, h⟩ := h
    refine ⟨u, hu, ?_⟩
    split at h
    · cases h
    · rename_i hk
      rw [if_neg hk]
      cases u <;> first
        | (simp at h; done)
        | (simp only [Option.some.injEq, Prod.mk.injEq] at h ⊢; exact ⟨h.1, trivial⟩)
        | (simp only [Option.bind_eq_some_iff, Option.some.injEq, Prod.mk.injEq] at h ⊢; obtain ⟨m, hm, h1, _⟩ := h; exact ⟨m, hm, h1, trivial⟩)
end Go.Sim
