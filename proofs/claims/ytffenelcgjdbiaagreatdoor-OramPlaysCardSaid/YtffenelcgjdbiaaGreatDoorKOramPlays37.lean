/- Merged by a program of mine (pack.py) out of my own texts; what is not used is left out. -/
import Derived.Test.YtffenelcgjdbiaaGreatDoorKOramPlays36
set_option linter.unusedVariables false
set_option linter.unusedSimpArgs false
namespace Go.Sim
open Go
theorem inRange_nat {k n : Nat} (h : k < n) : inRange (k : Int) n = some k := by simp [inRange, h]
theorem inBound_nat {k n : Nat} (h : k ≤ n) : inBound (k : Int) n = some k := by simp [inBound, h]
theorem aoI_bnd {fr : Fr} {x : Option AO} {i : Int} (h : aoI fr x = some i) (d lim : Nat) : bnd fr x d lim = inBound i lim := by
  cases x with
  | none => simp [aoI] at h
  | some x =>
    simp only [aoI, Option.bind_eq_some_iff] at h
    obtain ⟨v, hv, hi⟩ := h
    simp [bnd, hv, hi]
theorem bnd_none (fr : Fr) (d lim : Nat) : bnd fr none d lim = some d := rfl
theorem repl_one (cs : List V) (off : Nat) (u : V) (h : off < cs.length) : repl cs off [u] = cs.set off u := by
  have := repl_cons cs off u [] h
  rw [repl_nil] at this
  exact this.symm
theorem one_cells {u : V} (h : u.one = true) : u.cells = [u] ∧ u.notTup = true := by
  cases u <;> first | exact ⟨rfl, rfl⟩ | (simp [V.one] at h)
section
variable {sh : Sh} {fr : Fr} {st : St} {K : V → St → Prop}
theorem eN_ld {n : Nat} {agg : Bool} {x : AO} (h : evalN sh (.ld n agg x) fr st K) : ∃ v st', evalA (.ld n agg x) fr st = some (v, st') ∧ K v st' := by
  simp only [evalN] at h
  split at h
  · rename_i id off hx
    obtain ⟨v, hv, hk⟩ := Sh.ex_some h
    refine ⟨v, st, ?_, hk⟩
    simp only [St.ldv, Option.bind_eq_some_iff] at hv
    obtain ⟨cs, hcs, hv⟩ := hv
    simp only [evalA, hx, Option.bind_some, hcs]
    split at hv
    · rename_i hle; rw [if_pos hle, hv]; rfl
    · cases hv
  · rename_i cs hx
    obtain ⟨v, hv, hk⟩ := Sh.ex_some h
    refine ⟨v, st, ?_, hk⟩
    simp only [fldV, Nat.zero_add, List.drop_zero] at hv
    simp only [evalA, hx, Option.bind_some]
    split at hv
    · rename_i hle; rw [if_pos hle, hv]; rfl
    · cases hv
  · exact h.elim
theorem eN_sto {n : Nat} {x y : AO} (h : evalN sh (.sto n x y) fr st K) : ∃ v st', evalA (.sto n x y) fr st = some (v, st') ∧ K v st' := by
  simp only [evalN] at h
  split at h
  · rename_i id off u hx hy
    cases hb : (n == 1 && u.one) with
    | true =>
      rw [hb] at h
      obtain ⟨cs, hcs, hlt, hk⟩ := h
      simp only [Bool.and_eq_true, beq_iff_eq] at hb
      obtain ⟨rfl, ho⟩ := hb
      obtain ⟨h1, h2⟩ := one_cells ho
      refine ⟨_, _, ?_, hk _ rfl⟩
      simp only [evalA, hx, hy, Option.bind_some, hcs, h1, h2]
      rw [if_pos ⟨rfl, trivial, hlt⟩, repl_one _ _ _ hlt]
    | false =>
      rw [hb] at h
      obtain ⟨h1, h2, cs, hcs, hle, hk⟩ := h
      refine ⟨_, _, ?_, hk _ rfl⟩
      simp only [evalA, hx, hy, Option.bind_some, hcs]
      rw [if_pos ⟨h1, h2, hle⟩]
  · exact h.elim
theorem eN_bin {op : BinOp} {x y : AO} (h : evalN sh (.bin op x y) fr st K) : ∃ v st', evalA (.bin op x y) fr st = some (v, st') ∧ K v st' := by
  simp only [evalN] at h
  split at h
  · rename_i k a k' b hx hy
    split at h
    · split at h
      · rename_i hk; subst hk
        exact ⟨_, st, by simp [evalA, hx, hy, binV, iop, h.1], h.2⟩
      · exact h.elim
    · split at h
      · rename_i hk; subst hk
        exact ⟨_, st, by simp [evalA, hx, hy, binV, iop, h.1], h.2⟩
      · exact h.elim
    · exact ⟨_, st, by simp [evalA, hx, hy, binV, show ¬ b < 0 by omega], h.2⟩
    · exact ⟨_, st, by simp [evalA, hx, hy, binV, show ¬ b < 0 by omega], h.2⟩
    · exact evalD_some h
  · rename_i a b hx hy
    split at h
    · exact ⟨_, st, by simp [evalA, hx, hy, binV, sop, h.1], h.2⟩
    · exact evalD_some h
  · exact h.elim
theorem eN_ia {sz : Nat} {x i : AO} (h : evalN sh (.ia sz x i) fr st K) : ∃ v st', evalA (.ia sz x i) fr st = some (v, st') ∧ K v st' := by
  simp only [evalN] at h
  split at h
  · rename_i s l c kk j hx hi
    split at h
    · rename_i hs; subst hs
      obtain ⟨k, rfl, h⟩ := h
      obtain ⟨v, hv, hk⟩ := Sh.ex_some h
      have hlt := (List.getElem?_eq_some_iff.1 hv).1
      exact ⟨_, st, by simp [evalA, hx, hi, intOf?, inRange_nat hlt, hv], hk⟩
    · exact h.elim
  · rename_i s id off len c kk j hx hi
    split at h
    · rename_i hs; subst hs
      obtain ⟨k, rfl, hlt, hk⟩ := h
      exact ⟨_, st, by simp [evalA, hx, hi, intOf?, inRange_nat hlt], hk⟩
    · exact h.elim
  · exact h.elim
theorem eN_iaA {n sz : Nat} {x i : AO} (h : evalN sh (.iaA n sz x i) fr st K) : ∃ v st', evalA (.iaA n sz x i) fr st = some (v, st') ∧ K v st' := by
  simp only [evalN] at h
  split at h
  · rename_i id off kk j hx hi
    obtain ⟨k, rfl, hlt, hk⟩ := h
    exact ⟨_, st, by simp [evalA, hx, hi, intOf?, inRange_nat hlt], hk⟩
  · rename_i cs kk j hx hi
    obtain ⟨k, rfl, hlt, hle, hk⟩ := h
    exact ⟨_, st, by simp [evalA, hx, hi, intOf?, inRange_nat hlt, hle], hk⟩
  · exact h.elim
theorem eN_iaG {g n sz : Nat} {cs : List V} {i : AO} (h : evalN sh (.iaG g n sz cs i) fr st K) : ∃ v st', evalA (.iaG g n sz cs i) fr st = some (v, st') ∧ K v st' := by
  simp only [evalN] at h
  split at h
  · rename_i kk j hi
    split at h
    · rename_i hc
      obtain ⟨k, rfl, hlt, hk⟩ := h
      exact ⟨_, st, by simp [evalA, hi, intOf?, inRange_nat hlt, hc], hk⟩
    · exact h.elim
  · exact h.elim
theorem eN_ixA {n sz : Nat} {agg : Bool} {x i : AO} (h : evalN sh (.ixA n sz agg x i) fr st K) : ∃ v st', evalA (.ixA n sz agg x i) fr st = some (v, st') ∧ K v st' := by
  simp only [evalN] at h
  split at h
  · rename_i cs kk j hx hi
    obtain ⟨k, rfl, hlt, h⟩ := h
    obtain ⟨v, hv, hk⟩ := Sh.ex_some h
    refine ⟨v, st, ?_, hk⟩
    simp only [fldV] at hv
    simp only [evalA, hx, hi, intOf?, inRange_nat hlt, Option.bind_some]
    split at hv
    · rename_i hle; rw [if_pos hle, hv]; rfl
    · cases hv
  · exact h.elim
theorem eN_ixS {x i : AO} (h : evalN sh (.ixS x i) fr st K) : ∃ v st', evalA (.ixS x i) fr st = some (v, st') ∧ K v st' := by
  simp only [evalN] at h
  split at h
  · rename_i l kk j hx hi
    obtain ⟨k, rfl, c, hc, hk⟩ := h
    have hlt := (List.getElem?_eq_some_iff.1 hc).1
    exact ⟨_, st, by simp [evalA, hx, hi, intOf?, inRange_nat hlt, hc], hk⟩
  · exact h.elim
theorem eN_fld {off n : Nat} {agg : Bool} {x : AO} (h : evalN sh (.fld off n agg x) fr st K) : ∃ v st', evalA (.fld off n agg x) fr st = some (v, st') ∧ K v st' := by
  simp only [evalN] at h
  split at h
  · rename_i cs hx
    obtain ⟨v, hv, hk⟩ := Sh.ex_some h
    refine ⟨v, st, ?_, hk⟩
    simp only [fldV] at hv
    simp only [evalA, hx, Option.bind_some]
    split at hv
    · rename_i hle; rw [if_pos hle, hv]; rfl
    · cases hv
  · exact h.elim
theorem eN_sl {sz : Nat} {x : AO} {lo hi mx : Option AO} (h : evalN sh (.sl sz x lo hi mx) fr st K) : ∃ v st', evalA (.sl sz x lo hi mx) fr st = some (v, st') ∧ K v st' := by
  simp only [evalN] at h
  split at h
  · rename_i s l c hx
    split at h
    · rename_i hs; subst hs
      split at h
      · exact ⟨_, st, by simp [evalA, hx, bnd_none], h⟩
      · split at h
        · rename_i a ha
          obtain ⟨i, rfl, hi, hk⟩ := h
          exact ⟨_, st, by simp [evalA, hx, bnd_none, aoI_bnd ha, inBound_nat hi], hk⟩
        · exact h.elim
      · split at h
        · rename_i a ha
          obtain ⟨i, rfl, hi, hk⟩ := h
          exact ⟨_, st, by simp [evalA, hx, bnd_none, aoI_bnd ha, inBound_nat hi], hk⟩
        · exact h.elim
      · split at h
        · rename_i a b ha hb
          obtain ⟨i, j, rfl, rfl, hi, hj, hk⟩ := h
          exact ⟨_, st, by simp [evalA, hx, bnd_none, aoI_bnd ha, aoI_bnd hb, inBound_nat hi, inBound_nat hj], hk⟩
        · exact h.elim
    · exact h.elim
  · rename_i s l c mo hx
    split at h
    · rename_i hs; subst hs
      split at h
      · rename_i b d hlo hb hd
        obtain ⟨j, rfl, rfl, hj, hk⟩ := h
        have : lo = none := by simpa using hlo
        subst this
        exact ⟨_, st, by simp [evalA, hx, bnd_none, aoI_bnd hb, aoI_bnd hd, inBound_nat hj, inBound_nat (Nat.le_refl j)], hk⟩
      · rename_i a b d hlo ha hb hd
        obtain ⟨i, j, rfl, rfl, rfl, hi, hj, hk⟩ := h
        exact ⟨_, st, by simp [evalA, hx, aoI_bnd ha, aoI_bnd hb, aoI_bnd hd, inBound_nat hj, inBound_nat hi, inBound_nat (Nat.le_refl j)], hk⟩
      · exact h.elim
    · exact h.elim
  · rename_i s id off len cap hx
    split at h
    · rename_i hs; subst hs
      split at h
      · exact ⟨_, st, by simp [evalA, hx, bnd_none], h⟩
      · split at h
        · rename_i a ha
          obtain ⟨i, rfl, hi, hk⟩ := h
          exact ⟨_, st, by simp [evalA, hx, bnd_none, aoI_bnd ha, inBound_nat hi], hk⟩
        · exact h.elim
      · split at h
        · rename_i a ha
          obtain ⟨i, rfl, hi, hk⟩ := h
          exact ⟨_, st, by simp [evalA, hx, bnd_none, aoI_bnd ha, inBound_nat hi], hk⟩
        · exact h.elim
      · split at h
        · rename_i a b ha hb
          obtain ⟨i, j, rfl, rfl, hi, hj, hk⟩ := h
          exact ⟨_, st, by simp [evalA, hx, bnd_none, aoI_bnd ha, aoI_bnd hb, inBound_nat hi, inBound_nat hj], hk⟩
        · exact h.elim
    · exact h.elim
  · exact h.elim
theorem eN_slA {n sz : Nat} {x : AO} {lo hi : Option AO} (h : evalN sh (.slA n sz x lo hi) fr st K) : ∃ v st', evalA (.slA n sz x lo hi) fr st = some (v, st') ∧ K v st' := by
  simp only [evalN] at h
  split at h
  · rename_i id off hx
    split at h
    · split at h
      · rename_i a ha
        obtain ⟨i, rfl, hi, hk⟩ := h
        exact ⟨_, st, by simp [evalA, hx, bnd_none, aoI_bnd ha, inBound_nat hi], hk⟩
      · exact h.elim
    · split at h
      · rename_i a ha
        obtain ⟨i, rfl, hi, hk⟩ := h
        exact ⟨_, st, by simp [evalA, hx, bnd_none, aoI_bnd ha, inBound_nat hi], hk⟩
      · exact h.elim
    · split at h
      · rename_i a b ha hb
        obtain ⟨i, j, rfl, rfl, hi, hj, hk⟩ := h
        exact ⟨_, st, by simp [evalA, hx, bnd_none, aoI_bnd ha, aoI_bnd hb, inBound_nat hi, inBound_nat hj], hk⟩
      · exact h.elim
    · exact ⟨_, st, by simp [evalA, hx, bnd_none], h⟩
  · rename_i cs hx
    split at h
    · rename_i hs
      obtain ⟨hn, h⟩ := h
      split at h
      · split at h
        · rename_i a ha
          obtain ⟨i, rfl, hi, hk⟩ := h
          exact ⟨_, st, by simp [evalA, hx, bnd_none, aoI_bnd ha, inBound_nat hi, hs, hn], hk⟩
        · exact h.elim
      · split at h
        · rename_i a ha
          obtain ⟨i, rfl, hi, hk⟩ := h
          exact ⟨_, st, by simp [evalA, hx, bnd_none, aoI_bnd ha, inBound_nat hi, hs, hn], hk⟩
        · exact h.elim
      · split at h
        · rename_i a b ha hb
          obtain ⟨i, j, rfl, rfl, hi, hj, hk⟩ := h
          exact ⟨_, st, by simp [evalA, hx, bnd_none, aoI_bnd ha, aoI_bnd hb, inBound_nat hi, inBound_nat hj, hs, hn], hk⟩
        · exact h.elim
      · exact ⟨_, st, by simp [evalA, hx, bnd_none, hs, hn], h⟩
    · exact h.elim
  · exact h.elim
theorem eN_slS {x : AO} {lo hi : Option AO} (h : evalN sh (.slS x lo hi) fr st K) : ∃ v st', evalA (.slS x lo hi) fr st = some (v, st') ∧ K v st' := by
  simp only [evalN] at h
  split at h
  · rename_i l hx
    split at h
    · exact ⟨_, st, by simp [evalA, hx, bnd_none], h⟩
    · split at h
      · rename_i a ha
        obtain ⟨i, rfl, hi, hk⟩ := h
        exact ⟨_, st, by simp [evalA, hx, bnd_none, aoI_bnd ha, inBound_nat hi], hk⟩
      · exact h.elim
    · split at h
      · rename_i a ha
        obtain ⟨i, rfl, hi, hk⟩ := h
        exact ⟨_, st, by simp [evalA, hx, bnd_none, aoI_bnd ha, inBound_nat hi], hk⟩
      · exact h.elim
    · split at h
      · rename_i a b ha hb
        obtain ⟨i, j, rfl, rfl, hi, hj, hk⟩ := h
        exact ⟨_, st, by simp [evalA, hx, bnd_none, aoI_bnd ha, aoI_bnd hb, inBound_nat hi, inBound_nat hj], hk⟩
      · exact h.elim
  · exact h.elim
theorem eN_look {z : V} {x k : AO} {ok : Bool} (h : evalN sh (.look z x k ok) fr st K) : ∃ v st', evalA (.look z x k ok) fr st = some (v, st') ∧ K v st' := by
  simp only [evalN] at h
  split at h
  · rename_i id kk i hx hk
    obtain ⟨v, b, hv, hk'⟩ := Sh.ex_some h
    simp only [St.mlook, Option.bind_eq_some_iff, Option.map_eq_some_iff, Prod.mk.injEq] at hv
    obtain ⟨m, hm, r, hr, rfl, rfl⟩ := hv
    refine ⟨_, st, ?_, hk'⟩
    cases ok <;> simp [evalA, hx, hk, hm, hr]
  · exact h.elim
theorem eN_mup {m k v : AO} (h : evalN sh (.mup m k v) fr st K) : ∃ u st', evalA (.mup m k v) fr st = some (u, st') ∧ K u st' := by
  simp only [evalN] at h
  split at h
  · rename_i id kk i u hx hk hv
    obtain ⟨m, hm, hl, hk'⟩ := h
    obtain ⟨r, hr⟩ := Option.isSome_iff_exists.1 hl
    exact ⟨_, _, by simp [evalA, hx, hk, hv, hm, hr], hk' _ rfl⟩
  · exact h.elim
theorem eN_del {m k : AO} (h : evalN sh (.del m k) fr st K) : ∃ u st', evalA (.del m k) fr st = some (u, st') ∧ K u st' := by
  simp only [evalN] at h
  split at h
  · rename_i id kk i hx hk
    obtain ⟨m, hm, hl, hk'⟩ := h
    obtain ⟨r, hr⟩ := Option.isSome_iff_exists.1 hl
    exact ⟨_, _, by simp [evalA, hx, hk, hm, hr], hk' _ rfl⟩
  · exact h.elim
theorem eN_len {k : Nat} {x : AO} (h : evalN sh (.len k x) fr st K) : ∃ u st', evalA (.len k x) fr st = some (u, st') ∧ K u st' := by
  simp only [evalN] at h
  split at h
  · rename_i id hx
    split at h
    · rename_i hk; subst hk
      obtain ⟨m, hm, hk'⟩ := h
      exact ⟨_, _, by simp [evalA, hx, hm, cls], hk'⟩
    · exact h.elim
  · exact h.elim
theorem ite_max (a b : Int) : (if b > a then b else a) = max a b := by split <;> omega
theorem ite_min (a b : Int) : (if b < a then b else a) = min a b := by split <;> omega
theorem eN_mm {isMax : Bool} {xs : List AO} (h : evalN sh (.mm isMax xs) fr st K) : ∃ u st', evalA (.mm isMax xs) fr st = some (u, st') ∧ K u st' := by
  simp only [evalN] at h
  split at h
  · rename_i k a k' b hx
    refine ⟨_, _, ?_, h⟩
    cases isMax <;> simp only [evalA, hx, Option.bind_some, ite_max, ite_min, if_true, Bool.false_eq_true, if_false, cond_true, cond_false]
  · rename_i k a k' b k'' c hx
    refine ⟨_, _, ?_, h⟩
    cases isMax <;> simp only [evalA, hx, Option.bind_some, ite_max, ite_min, if_true, Bool.false_eq_true, if_false, cond_true, cond_false]
  · exact h.elim
theorem eN_mks {sz bytes : Nat} {z : V} {mu : Bool} {l c : AO} (h : evalN sh (.mks sz bytes z mu l c) fr st K) : ∃ u st', evalA (.mks sz bytes z mu l c) fr st = some (u, st') ∧ K u st' := by
  simp only [evalN] at h
  split at h
  · rename_i a b hl hc
    cases mu with
    | true =>
      obtain ⟨n, k, rfl, rfl, hnk, hb, hk⟩ := h
      rw [Nat.mul_succ] at hb
      refine ⟨_, _, ?_, hk _ rfl⟩
      simp only [evalA, hl, hc, Option.bind_some]
      have hb2 : ((k : Int) * (bytes : Int)) ≤ 140737488355328 := by
        have : ((k * bytes : Nat) : Int) = (k : Int) * (bytes : Int) := by simp
        omega
      rw [if_pos ⟨by omega, by omega, hb2, by omega⟩]
      simp
    | false =>
      obtain ⟨n, rfl, rfl, hb, hk⟩ := h
      rw [Nat.mul_succ] at hb
      refine ⟨_, _, ?_, hk⟩
      simp only [evalA, hl, hc, Option.bind_some]
      have hb2 : ((n : Int) * (bytes : Int)) ≤ 140737488355328 := by
        have : ((n * bytes : Nat) : Int) = (n : Int) * (bytes : Int) := by simp
        omega
      rw [if_pos ⟨by omega, by omega, hb2, by omega⟩]
      simp
  · exact h.elim
theorem hasApp_ok {st : St} {c : Cap} {a b bytes : Nat} (h : hasApp st c ((a + b) * (bytes + 1))) (e : Bool) : (canApp st c = true ∨ e = true) ∧ (a + b) * bytes ≤ 140737488355328 ∧ a + b ≤ 140737488355328 := by
  obtain ⟨h1, h2⟩ := h
  rw [Nat.mul_succ] at h2
  exact ⟨.inl h1, by omega, by omega⟩
theorem eN_app {sz bytes : Nat} {mu : Bool} {x y : AO} (h : evalN sh (.app sz bytes mu x y) fr st K) : ∃ u st', evalA (.app sz bytes mu x y) fr st = some (u, st') ∧ K u st' := by
  cases mu with
  | true => exact h.elim
  | false =>
  simp only [evalN, cond_false] at h
  split at h
  · rename_i s l c s' m c' hx hy
    split at h
    · rename_i hs; obtain ⟨rfl, rfl⟩ := hs
      refine ⟨_, _, ?_, h.2 _ _ ⟨rfl, rfl⟩⟩
      simp only [evalA, hx, hy, Option.bind_some, elemsOf, and_self, if_true]
      rw [if_pos (hasApp_ok h.1 _)]
    · exact h.elim
  · rename_i s l c b _ hx hy
    split at h
    · rename_i hs; subst hs
      obtain ⟨m, hm, h1, h2⟩ := h
      refine ⟨_, _, ?_, h2 _ _ ⟨rfl, rfl⟩⟩
      simp only [evalA, hx, hy, Option.bind_some, hm, and_self, if_true]
      rw [if_pos (hasApp_ok h1 _)]
    · exact h.elim
  · rename_i s id off len cap b hx hy
    split at h
    · rename_i hs; subst hs
      obtain ⟨m, cs, hm, hcs, h1, h2, h3⟩ := h
      refine ⟨_, _, ?_, h3 _ rfl⟩
      simp only [evalA, hx, hy, Option.bind_some, hm, hcs, and_self, if_true]
      rw [if_pos ⟨h1, h2⟩]
    · exact h.elim
  · exact h.elim
theorem eN_appz {sz bytes : Nat} {z : V} {x n : AO} (h : evalN sh (.appz sz bytes z x n) fr st K) : ∃ u st', evalA (.appz sz bytes z x n) fr st = some (u, st') ∧ K u st' := by
  simp only [evalN] at h
  split at h
  · rename_i s l c j hx hy
    split at h
    · rename_i hs; subst hs
      obtain ⟨k, rfl, h1, h2⟩ := h
      refine ⟨_, _, ?_, h2 _ _ ⟨rfl, rfl⟩⟩
      simp only [evalA, hx, hy, Option.bind_some, Int.natCast_nonneg, and_self, if_true, Int.toNat_natCast, List.length_replicate]
      rw [if_pos (hasApp_ok h1 _)]
    · exact h.elim
  · exact h.elim
theorem eN_cpy {sz : Nat} {x y : AO} (h : evalN sh (.cpy sz x y) fr st K) : ∃ u st', evalA (.cpy sz x y) fr st = some (u, st') ∧ K u st' := by
  simp only [evalN] at h
  split at h
  · rename_i s id off len cap b hx hy
    split at h
    · rename_i hs; subst hs
      obtain ⟨m, cs, hm, hcs, h1, h2⟩ := h
      refine ⟨_, _, ?_, h2 _ rfl⟩
      simp only [evalA, hx, hy, Option.bind_some, hm, hcs, if_true]
      rw [if_pos h1]
    · exact h.elim
  · exact h.elim
theorem eN_arr {n sz : Nat} {x : AO} (h : evalN sh (.arr n sz x) fr st K) : ∃ u st', evalA (.arr n sz x) fr st = some (u, st') ∧ K u st' := by
  simp only [evalN] at h
  split at h
  · rename_i s l c hx
    split at h
    · rename_i hs; obtain ⟨rfl, hn⟩ := hs
      refine ⟨_, _, ?_, h.2⟩
      simp only [evalA, hx, Option.bind_some]
      rw [if_pos ⟨trivial, hn, h.1⟩]
    · exact h.elim
  · rename_i s id off len cap hx
    split at h
    · rename_i hs; subst hs
      refine ⟨_, _, ?_, h.2⟩
      simp only [evalA, hx, Option.bind_some]
      rw [if_pos ⟨trivial, h.1⟩]
    · exact h.elim
  · exact h.elim
theorem eN_b2s {x : AO} (h : evalN sh (.b2s x) fr st K) : ∃ u st', evalA (.b2s x) fr st = some (u, st') ∧ K u st' := by
  simp only [evalN] at h
  split at h
  · rename_i l c hx
    obtain ⟨s, hs, hk⟩ := h
    exact ⟨_, _, by simp [evalA, hx, hs], hk⟩
  · exact h.elim
theorem eN_s2b {x : AO} (h : evalN sh (.s2b x) fr st K) : ∃ u st', evalA (.s2b x) fr st = some (u, st') ∧ K u st' := by
  simp only [evalN] at h
  split at h
  · rename_i s hx
    refine ⟨_, _, ?_, h.2 _ rfl⟩
    simp only [evalA, hx, Option.bind_some]
    rw [if_pos h.1]
  · exact h.elim
theorem eN_box {x : AO} (h : evalN sh (.box x) fr st K) : ∃ u st', evalA (.box x) fr st = some (u, st') ∧ K u st' := by
  simp only [evalN] at h
  split at h
  · rename_i u hx
    cases hn : u.notTup with
    | true => rw [hn] at h; exact ⟨_, _, by simp [evalA, hx, hn], h _ rfl⟩
    | false => rw [hn] at h; exact h.elim
  · exact h.elim
theorem eN_pick {c a b : AO} (h : evalN sh (.pick c a b) fr st K) : ∃ u st', evalA (.pick c a b) fr st = some (u, st') ∧ K u st' := by
  simp only [evalN] at h
  split at h
  · rename_i t k x k' y hc ha hb
    split at h
    · rename_i hk; subst hk
      refine ⟨_, _, ?_, h⟩
      cases t <;> simp [evalA, hc, ha, hb]
    · exact h.elim
  · rename_i t x y hc ha hb
    refine ⟨_, _, ?_, h⟩
    cases t <;> simp [evalA, hc, ha, hb]
  · rename_i t x y _ _ hc ha hb
    cases t with
    | true => exact ⟨x, st, by simp [evalA, hc, ha], h.1 rfl⟩
    | false => exact ⟨y, st, by simp [evalA, hc, hb], h.2 rfl⟩
  · exact h.elim
theorem eN_build {z : List V} {ps : List (Nat × Nat × AO)} (h : evalN sh (.build z ps) fr st K) : ∃ u st', evalA (.build z ps) fr st = some (u, st') ∧ K u st' := by
  simp only [evalN] at h
  obtain ⟨cs, hcs, hk⟩ := h
  refine ⟨_, _, ?_, hk⟩
  simp only [Option.bind_eq_some_iff] at hcs
  obtain ⟨vs, h1, h2⟩ := hcs
  simp [evalA, h1, h2]
theorem eN_lits {sz : Nat} {ps : List AO} (h : evalN sh (.lits sz ps) fr st K) : ∃ u st', evalA (.lits sz ps) fr st = some (u, st') ∧ K u st' := by
  simp only [evalN] at h
  split at h
  · rename_i vs hvs
    refine ⟨_, _, ?_, h.2⟩
    simp only [evalA, hvs, Option.bind_some]
    rw [if_pos]
    simp only [List.all_eq_true, Bool.and_eq_true, beq_iff_eq]
    exact h.1
  · exact h.elim
theorem eN_fa {off : Nat} {x : AO} (h : evalN sh (.fa off x) fr st K) : ∃ u st', evalA (.fa off x) fr st = some (u, st') ∧ K u st' := by
  simp only [evalN] at h
  split at h
  · rename_i cs hx
    exact ⟨_, _, by simp [evalA, hx, h.1], h.2⟩
  · exact h.elim
theorem eN_eqv {k : Nat} {neq : Bool} {x y : AO} (h : evalN sh (.eqv k neq x y) fr st K) : ∃ u st', evalA (.eqv k neq x y) fr st = some (u, st') ∧ K u st' := by
  simp only [evalN] at h
  split at h
  · rename_i u hx
    split at h
    · rename_i hy
      split at h
      · rename_i hk; subst hk
        obtain ⟨b, hb, hc, hk'⟩ := h
        refine ⟨_, _, ?_, hk'⟩
        cases u <;> simp [cls] at hc <;> simp [isNil] at hb <;> subst hb <;> cases neq <;> simp [evalA, hx, hy, cls]
      · exact h.elim
    · rename_i hy
      split at h
      · rename_i hk; subst hk
        obtain ⟨b, hb, hc, hk'⟩ := h
        refine ⟨_, _, ?_, hk'⟩
        cases u <;> simp [cls] at hc <;> simp [isNil] at hb <;> subst hb <;> cases neq <;> simp [evalA, hx, hy, cls]
      · exact h.elim
    · rename_i s l hy
      split at h
      · rename_i hk; subst hk
        obtain ⟨b, hb, hc, hk'⟩ := h
        refine ⟨_, _, ?_, hk'⟩
        cases u <;> simp [cls] at hc
        · rename_i s2 l2 c2
          cases c2 <;> simp [isNil] at hb <;> subst hb <;> cases neq <;> simp [evalA, hx, hy, cls]
        · simp [isNil] at hb; subst hb; cases neq <;> simp [evalA, hx, hy, cls]
      · exact h.elim
    · exact h.elim
  · exact h.elim
theorem evalN_some {o : AOp} (h : evalN sh o fr st K) : ∃ v st', evalA o fr st = some (v, st') ∧ K v st' := by
  cases o
  case ld => exact eN_ld h
  case sto => exact eN_sto h
  case bin => exact eN_bin h
  case ia => exact eN_ia h
  case iaA => exact eN_iaA h
  case iaG => exact eN_iaG h
  case ixA => exact eN_ixA h
  case ixS => exact eN_ixS h
  case fld => exact eN_fld h
  case fa => exact eN_fa h
  case lits => exact eN_lits h
  case sl => exact eN_sl h
  case slA => exact eN_slA h
  case slS => exact eN_slS h
  case look => exact eN_look h
  case mup => exact eN_mup h
  case del => exact eN_del h
  case len => exact eN_len h
  case mm => exact eN_mm h
  case mks => exact eN_mks h
  case app => exact eN_app h
  case appz => exact eN_appz h
  case cpy => exact eN_cpy h
  case arr => exact eN_arr h
  case b2s => exact eN_b2s h
  case s2b => exact eN_s2b h
  case box => exact eN_box h
  case pick => exact eN_pick h
  case build => exact eN_build h
  case eqv => exact eN_eqv h
  case alloc z => exact ⟨_, _, rfl, h _ rfl⟩
  case mkm => exact ⟨_, _, rfl, h _ rfl⟩
  all_goals exact evalD_some h
end
end Go.Sim
