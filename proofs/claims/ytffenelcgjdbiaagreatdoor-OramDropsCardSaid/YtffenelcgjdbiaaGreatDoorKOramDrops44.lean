/- Merged by a program of mine (pack.py) out of my own texts; what is not used is left out. -/
import Derived.Test.YtffenelcgjdbiaaGreatDoorKOramDrops43
import Derived.Below
import Derived.Test.YtffenelcgjdbiaaGreatDoorRows
import Derived.ProofKit
import Derived.LaidMore
import Derived.OpenShut
import Derived.Stop.Joined
namespace Go.Proofs.YtffenelcgjdbiaaGreatDoor
open Go Go.Sim
set_option maxRecDepth 100000
theorem putC_mem {l : List Cel} {c y : Cel} (h : y ∈ putC l c) : y = c ∨ y ∈ l := by
  induction l with
  | nil => rw [putC, List.mem_singleton] at h; exact .inl h
  | cons x r ih =>
    rw [putC] at h
    split at h
    · rcases List.mem_cons.1 h with h | h
      · exact .inl h
      · exact .inr (List.mem_cons_of_mem _ h)
    · rcases List.mem_cons.1 h with h | h
      · exact .inr (h ▸ List.mem_cons_self ..)
      · exact (ih h).imp id (List.mem_cons_of_mem _)
theorem putC_length (l : List Cel) (c : Cel) : (putC l c).length = if (look l c.id).isSome then l.length else l.length + 1 := by
  induction l with
  | nil => rfl
  | cons x r ih =>
    rw [putC, look, List.find?_cons]
    by_cases h : c.id = x.id
    · rw [if_pos h, decide_eq_true (show (x.id : Int) = c.id by omega)]; simp
    · rw [if_neg h, decide_eq_false (show ¬ (x.id : Int) = c.id by omega), List.length_cons, ih]
      show _ = if (look r c.id).isSome = true then _ else _
      split <;> simp
theorem StaOk.put {x : Sta} (ok : StaOk x) (c : Cel) : StaOk (x.put c) := by
  unfold Sta.put
  split
  · rename_i h
    rw [staMay, Bool.and_eq_true] at h
    refine ⟨ok.most, ok.size, fun y hy => ?_, ?_⟩
    · rcases putC_mem hy with rfl | hy
      · exact celOk_iff.1 h.1
      · exact ok.ok y hy
    · show (putC x.l c).length ≤ x.most
      rw [putC_length]
      have := ok.long
      split
      · exact this
      · rename_i hn
        have h2 := h.2
        rw [Bool.or_eq_true, decide_eq_true_eq] at h2
        rcases h2 with h2 | h2
        · exact absurd h2 hn
        · omega
  · exact ok
def staPuts (x : Sta) (l : List Cel) : Sta := l.foldl Sta.put x
theorem StaOk.puts {x : Sta} (ok : StaOk x) (l : List Cel) : StaOk (staPuts x l) := by
  induction l generalizing x with
  | nil => exact ok
  | cons c r ih => exact ih (ok.put c)
theorem put_size (x : Sta) (c : Cel) : (x.put c).size = x.size := by unfold Sta.put; split <;> rfl
theorem staPuts_append (x : Sta) (l m : List Cel) : staPuts x (l ++ m) = staPuts (staPuts x l) m := List.foldl_append ..
theorem look_new {l : List Cel} {id : Int} (h : ∀ x ∈ l, (x.id : Int) ≠ id) : look l id = none := by
  rw [look, List.find?_eq_none]
  intro x hx; simpa using h x hx
theorem put_new {x : Sta} {c : Cel} (ok : CelOk c x.size) (h : ∀ y ∈ x.l, (y.id : Int) ≠ c.id) (hl : x.l.length < x.most) : x.put c = ⟨x.most, x.size, x.l ++ [c]⟩ := by
  unfold Sta.put
  rw [if_pos (by rw [staMay, celOk_iff.2 ok, decide_eq_true hl, Bool.or_true]; rfl), putC_new fun y hy e => h y hy (by omega)]
theorem puts_new {x : Sta} {m : List Cel} (ok : ∀ c ∈ m, CelOk c x.size) (hu : Uid (x.l ++ m)) (hl : x.l.length + m.length ≤ x.most) : staPuts x m = ⟨x.most, x.size, x.l ++ m⟩ := by
  induction m generalizing x with
  | nil => rw [List.append_nil]; rfl
  | cons c r ih =>
    have hn : ∀ y ∈ x.l, (y.id : Int) ≠ c.id := fun y hy e => by
      unfold Uid at hu
      rw [List.map_append, List.nodup_append] at hu
      exact hu.2.2 _ (List.mem_map.2 ⟨y, hy, rfl⟩) _ (List.mem_map.2 ⟨c, List.mem_cons_self .., rfl⟩) e
    show staPuts (x.put c) r = _
    rw [List.length_cons] at hl
    rw [put_new (ok c (List.mem_cons_self ..)) hn (by omega)]
    have := ih (x := ⟨x.most, x.size, x.l ++ [c]⟩) (fun y hy => ok y (List.mem_cons_of_mem _ hy)) (by rw [List.append_assoc]; exact hu) (by simp; omega)
    rw [this, List.append_assoc]; rfl
theorem delC_perm {l : List Cel} {id : Int} {c : Cel} (h : look l id = some c) : (c :: delC l id).Perm l := by
  induction l with
  | nil => cases h
  | cons x r ih =>
    rw [look, List.find?_cons] at h
    by_cases hx : (x.id : Int) = id
    · rw [decide_eq_true hx] at h
      cases h
      rw [delC, if_pos hx.symm]
    · rw [decide_eq_false hx] at h
      rw [delC, if_neg fun e => hx e.symm]
      exact (List.Perm.swap ..).trans ((ih h).cons x)
theorem delC_none {l : List Cel} {id : Int} (h : look l id = none) : delC l id = l := by
  induction l with
  | nil => rfl
  | cons x r ih =>
    rw [look, List.find?_cons] at h
    by_cases hx : (x.id : Int) = id
    · rw [decide_eq_true hx] at h; cases h
    · rw [decide_eq_false hx] at h
      rw [delC, if_neg fun e => hx e.symm, ih h]
theorem Uid.perm {l m : List Cel} (h : Uid l) (p : l.Perm m) : Uid m := (p.map _).nodup_iff.1 h
theorem Uid.tail {c : Cel} {l : List Cel} (h : Uid (c :: l)) : Uid l ∧ ∀ y ∈ l, (y.id : Int) ≠ c.id := by
  unfold Uid at h
  rw [List.map_cons, List.nodup_cons] at h
  exact ⟨h.2, fun y hy e => h.1 (List.mem_map.2 ⟨y, hy, e⟩)⟩
theorem evict_fold {d leaf level z : Nat} : ∀ (is : List Int) (s : List Cel × List Cel), is.Nodup → (∀ i ∈ is, ∃ c, look s.2 i = some c) → Uid s.2 → s.1.length ≤ z → (∀ c ∈ s.1, (level : Int) ≤ meetI d c.leaf leaf) →
    ((is.foldl (evStep d leaf level z) s).1 ++ (is.foldl (evStep d leaf level z) s).2).Perm (s.1 ++ s.2) ∧ (is.foldl (evStep d leaf level z) s).1.length ≤ z ∧ ∀ c ∈ (is.foldl (evStep d leaf level z) s).1, (level : Int) ≤ meetI d c.leaf leaf
  | [], s, _, _, _, hz, hc => ⟨.refl _, hz, hc⟩
  | i :: is, s, hn, hl, hu, hz, hc => by
    rw [List.nodup_cons] at hn
    rw [List.foldl_cons]
    obtain ⟨c, hlk⟩ := hl i (List.mem_cons_self ..)
    have hco : celOr s.2 i = c := by rw [celOr, hlk]; rfl
    by_cases hb : s.1.length < z ∧ (level : Int) ≤ meetI d (celOr s.2 i).leaf leaf
    · have he : evStep d leaf level z s i = (s.1 ++ [c], delC s.2 i) := by rw [evStep, if_pos hb, hco]
      rw [he]
      have hp := delC_perm hlk
      have hu2 := hu.perm hp.symm
      obtain ⟨h1, h2, h3⟩ := evict_fold is (s.1 ++ [c], delC s.2 i) hn.2 (fun j hj => by
        obtain ⟨c', hc'⟩ := hl j (List.mem_cons_of_mem _ hj)
        obtain ⟨m1, m2⟩ := look_some hc'
        obtain ⟨k1, k2⟩ := look_some hlk
        have hm := hp.mem_iff.2 m1
        rcases List.mem_cons.1 hm with hm | hm
        · exfalso
          rw [hm] at m2
          exact hn.1 (by rw [← k2, m2]; exact hj)
        · exact ⟨c', by rw [← m2]; exact look_mem hu2.tail.1 hm⟩) hu2.tail.1 (by show (s.1 ++ [c]).length ≤ z; have := hb.1; simp; omega) (fun y hy => by
          rcases List.mem_append.1 hy with hy | hy
          · exact hc y hy
          · rw [List.mem_singleton] at hy; subst hy; rw [← hco]; exact hb.2)
      refine ⟨h1.trans ?_, h2, h3⟩
      show ((s.1 ++ [c]) ++ delC s.2 i).Perm _
      rw [List.append_assoc]
      exact hp.append_left s.1
    · have he : evStep d leaf level z s i = s := by rw [evStep, if_neg hb]
      rw [he]
      exact evict_fold is s hn.2 (fun j hj => hl j (List.mem_cons_of_mem _ hj)) hu hz hc
theorem evict_facts {d leaf level z : Nat} {l : List Cel} (hu : Uid l) :
    ((evictL d leaf level z l).1 ++ (evictL d leaf level z l).2).Perm l ∧ (evictL d leaf level z l).1.length ≤ z ∧ ∀ c ∈ (evictL d leaf level z l).1, (level : Int) ≤ meetI d c.leaf leaf := by
  have h := evict_fold (d := d) (leaf := leaf) (level := level) (z := z) (idsL l) ([], l) (idsL_nodup hu) (fun i hi => by
    obtain ⟨c, hc, rfl⟩ := idsL_mem.1 hi
    exact ⟨c, look_mem hu hc⟩) hu (Nat.zero_le _) (fun c hc => by cases hc)
  exact h
def settleL (d leaf z : Nat) : Nat → List Cel × (Nat → List Cel) → List Cel × (Nat → List Cel)
  | 0, s => s
  | k + 1, s => settleL d leaf z k ((evictL d leaf k z s.1).2, updB s.2 (atL d leaf k) (evictL d leaf k z s.1).1)
theorem shr_eq {a b k : Nat} (h : a ^^^ b < 2 ^ k) : a / 2 ^ k = b / 2 ^ k := by
  have h1 : (a ^^^ b) >>> k = 0 := by rw [Nat.shiftRight_eq_div_pow, Nat.div_eq_of_lt h]
  rw [Nat.shiftRight_xor_distrib] at h1
  have h2 : a >>> k = b >>> k := by
    have := congrArg (· ^^^ (b >>> k)) h1
    simpa [Nat.xor_assoc] using this
  simpa [Nat.shiftRight_eq_div_pow] using h2
theorem meet_on {d leaf a level : Nat} (hv : level ≤ d) (h : (level : Int) ≤ meetI d a leaf) : atL d leaf level ∈ onL d a := by
  unfold meetI at h
  have h1 : a ^^^ leaf < 2 ^ (d - level) := bl_le.1 (by omega)
  have h2 := shr_eq h1
  rw [onL, List.mem_map]
  exact ⟨level, List.mem_range.2 (by omega), by unfold atL; rw [h2]⟩
theorem atL_bounds {d leaf level : Nat} (hl : leaf < 2 ^ d) (hv : level ≤ d) : 2 ^ level - 1 ≤ atL d leaf level ∧ atL d leaf level < 2 ^ (level + 1) - 1 := by
  have h1 : leaf / 2 ^ (d - level) < 2 ^ level := by
    rw [Nat.div_lt_iff_lt_mul (Nat.pow_pos (by decide)), ← Nat.pow_add, show level + (d - level) = d by omega]; exact hl
  have h3 : 1 ≤ 2 ^ level := Nat.one_le_two_pow
  unfold atL
  rw [Nat.pow_succ]
  generalize leaf / 2 ^ (d - level) = q at *
  generalize 2 ^ level = r at *
  omega
theorem atL_inj {d leaf a b : Nat} (hl : leaf < 2 ^ d) (ha : a ≤ d) (hb : b ≤ d) (h : atL d leaf a = atL d leaf b) : a = b := by
  have h1 := atL_bounds hl ha
  have h2 := atL_bounds hl hb
  have lem : ∀ a b : Nat, a < b → 2 ^ (a + 1) - 1 ≤ 2 ^ b - 1 := fun a b hab => by
    have := Nat.pow_le_pow_right (show 0 < 2 by decide) (show a + 1 ≤ b from hab)
    omega
  rcases Nat.lt_trichotomy a b with c | c | c
  · have := lem a b c; omega
  · exact c
  · have := lem b a c; omega
def allB (n : Nat) (B : Nat → List Cel) : List Cel := (List.range n).flatMap B
theorem allB_succ (n : Nat) (B : Nat → List Cel) : allB (n + 1) B = allB n B ++ B n := by rw [allB, List.range_succ, List.flatMap_append]; simp [allB]
theorem allB_congr {n : Nat} {B C : Nat → List Cel} (h : ∀ k < n, B k = C k) : allB n B = allB n C := by
  unfold allB
  rw [List.flatMap_def, List.flatMap_def]
  congr 1
  exact List.map_congr_left fun k hk => h k (List.mem_range.1 hk)
theorem allB_upd {n k : Nat} (hk : k < n) {B : Nat → List Cel} (hB : B k = []) (l : List Cel) : (allB n (updB B k l)).Perm (l ++ allB n B) := by
  induction n with
  | zero => omega
  | succ n ih =>
    rw [allB_succ, allB_succ]
    by_cases h : k = n
    · subst h
      rw [hB, List.append_nil, show updB B k l k = l by simp [updB]]
      rw [allB_congr (n := k) (B := updB B k l) (C := B) fun j hj => by rw [updB, if_neg (by omega)]]
      exact List.perm_append_comm
    · rw [show updB B k l n = B n by rw [updB, if_neg fun e => h e.symm]]
      refine ((ih (by omega)).append_right _).trans ?_
      rw [List.append_assoc]
theorem mem_allB {n : Nat} {B : Nat → List Cel} {c : Cel} : c ∈ allB n B ↔ ∃ k < n, c ∈ B k := by
  unfold allB
  rw [List.mem_flatMap]
  simp only [List.mem_range]
def offB (d leaf : Nat) (B : Nat → List Cel) (k : Nat) : Nat → List Cel := fun i => if i ∈ (List.range k).map (atL d leaf) then [] else B i
theorem offB_succ {d leaf : Nat} {B : Nat → List Cel} {k : Nat} (hl : leaf < 2 ^ d) (hk : k ≤ d) : offB d leaf B k = updB (offB d leaf B (k + 1)) (atL d leaf k) (B (atL d leaf k)) := by
  funext i
  unfold offB updB
  by_cases hi : i = atL d leaf k
  · subst hi
    rw [if_pos rfl, if_neg]
    intro h
    obtain ⟨j, hj, e⟩ := List.mem_map.1 h
    rw [List.mem_range] at hj
    have := atL_inj hl (by omega) hk e
    omega
  · rw [if_neg hi]
    have : (i ∈ (List.range (k + 1)).map (atL d leaf)) ↔ i ∈ (List.range k).map (atL d leaf) := by
      rw [range_step, List.mem_append, List.mem_singleton]
      exact ⟨fun h => h.resolve_right hi, .inl⟩
    simp only [this]
theorem offB_at {d leaf : Nat} {B : Nat → List Cel} {k : Nat} : offB d leaf B (k + 1) (atL d leaf k) = [] := by
  unfold offB
  rw [if_pos (List.mem_map.2 ⟨k, List.mem_range.2 (by omega), rfl⟩)]
theorem carry_perm {d leaf : Nat} (hl : leaf < 2 ^ d) (B : Nat → List Cel) : ∀ k, k ≤ d + 1 → (allB (2 * 2 ^ d - 1) B).Perm (((List.range k).map (atL d leaf)).flatMap B ++ allB (2 * 2 ^ d - 1) (offB d leaf B k))
  | 0, _ => by
    show (allB _ B).Perm ([] ++ _)
    rw [List.nil_append, allB_congr (C := offB d leaf B 0)]
    intro i _; simp [offB]
  | k + 1, hk => by
    refine (carry_perm hl B k (by omega)).trans ?_
    rw [range_step, List.flatMap_append, List.append_assoc]
    refine List.Perm.append_left _ ?_
    rw [offB_succ hl (by omega)]
    have := allB_upd (n := 2 * 2 ^ d - 1) (atL_lt hl (show k ≤ d by omega)) (offB_at (B := B)) (B (atL d leaf k))
    simpa using this
theorem settle_law {d leaf z : Nat} (hl : leaf < 2 ^ d) : ∀ (k : Nat) (s : List Cel × (Nat → List Cel)), k ≤ d + 1 → Uid s.1 →
    ((settleL d leaf z k s).1 ++ allB (2 * 2 ^ d - 1) (settleL d leaf z k s).2).Perm (s.1 ++ allB (2 * 2 ^ d - 1) (offB d leaf s.2 k)) ∧
    (∀ i, i ∉ (List.range k).map (atL d leaf) → (settleL d leaf z k s).2 i = s.2 i) ∧
    (∀ i ∈ (List.range k).map (atL d leaf), ((settleL d leaf z k s).2 i).length ≤ z ∧ ∀ c ∈ (settleL d leaf z k s).2 i, i ∈ onL d c.leaf)
  | 0, s, _, _ => by
    refine ⟨?_, fun i _ => rfl, fun i hi => by cases hi⟩
    show (s.1 ++ allB _ s.2).Perm _
    rw [allB_congr (B := s.2) (C := offB d leaf s.2 0)]
    intro i _; simp [offB]
  | k + 1, s, hk, hu => by
    obtain ⟨e1, e2, e3⟩ := evict_facts (d := d) (leaf := leaf) (level := k) (z := z) hu
    have hu1 : Uid (evictL d leaf k z s.1).2 := by
      have := hu.perm e1.symm
      unfold Uid at this ⊢
      rw [List.map_append, List.nodup_append] at this
      exact this.2.1
    obtain ⟨h1, h2, h3⟩ := settle_law (z := z) hl k ((evictL d leaf k z s.1).2, updB s.2 (atL d leaf k) (evictL d leaf k z s.1).1) (by omega) hu1
    have hout : atL d leaf k ∉ (List.range k).map (atL d leaf) := fun h => by
      obtain ⟨j, hj, e⟩ := List.mem_map.1 h
      rw [List.mem_range] at hj
      have := atL_inj hl (by omega) (by omega) e
      omega
    have hset : settleL d leaf z (k + 1) s = settleL d leaf z k ((evictL d leaf k z s.1).2, updB s.2 (atL d leaf k) (evictL d leaf k z s.1).1) := rfl
    rw [hset]
    refine ⟨h1.trans ?_, ?_, ?_⟩
    · have eo : offB d leaf (updB s.2 (atL d leaf k) (evictL d leaf k z s.1).1) k = updB (offB d leaf s.2 (k + 1)) (atL d leaf k) (evictL d leaf k z s.1).1 := by
        have := offB_succ (B := updB s.2 (atL d leaf k) (evictL d leaf k z s.1).1) hl (show k ≤ d by omega)
        rw [this, show updB s.2 (atL d leaf k) (evictL d leaf k z s.1).1 (atL d leaf k) = (evictL d leaf k z s.1).1 by simp [updB]]
        funext i
        unfold updB offB
        by_cases hi : i = atL d leaf k
        · rw [if_pos hi, if_pos hi]
        · rw [if_neg hi, if_neg hi]; simp only [hi, if_false]
      show ((evictL d leaf k z s.1).2 ++ allB _ (offB d leaf (updB s.2 (atL d leaf k) (evictL d leaf k z s.1).1) k)).Perm _
      rw [eo]
      refine ((allB_upd (atL_lt hl (show k ≤ d by omega)) offB_at _).append_left _).trans ?_
      rw [← List.append_assoc]
      refine List.Perm.append_right _ ?_
      exact List.perm_append_comm.trans e1
    · intro i hi
      rw [range_step, List.mem_append, List.mem_singleton] at hi
      rw [h2 i fun h => hi (.inl h)]
      show updB _ _ _ _ = _
      rw [updB, if_neg fun h => hi (.inr h)]
    · intro i hi
      rw [range_step, List.mem_append, List.mem_singleton] at hi
      by_cases hik : i = atL d leaf k
      · subst hik
        rw [h2 _ hout]
        show (updB _ _ _ _).length ≤ z ∧ ∀ c ∈ updB _ _ _ _, _
        rw [show updB s.2 (atL d leaf k) (evictL d leaf k z s.1).1 (atL d leaf k) = (evictL d leaf k z s.1).1 by simp [updB]]
        exact ⟨e2, fun c hc => meet_on (by omega) (e3 c hc)⟩
      · exact h3 i (hi.resolve_right hik)
end Go.Proofs.YtffenelcgjdbiaaGreatDoor
namespace Go.Proofs.YtffenelcgjdbiaaGreatDoor
open Go Go.Sim
set_option maxRecDepth 100000
structure Oq where
  o : Nat
  b : Nat
  p : Nat
  dv : Nat
  s : Nat
  m : Nat
  t : Nat
structure Om where
  d : Nat
  z : Nat
  size : Nat
  bk : Bk
  src : Src
  ps : Ps
  sta : Sta
  shown : List Nat
def orC (q : Oq) (x : Om) (c : Cap) : List V := [.ptr q.b 0, .ptr q.s 0, .int .i64 (2 ^ x.d : Nat), .int .i64 x.z, .int .i64 x.size, .ptr q.m 0, .ptr q.t 0, .lst 1 (U64s x.shown) c]
def OrA (q : Oq) (x : Om) : Asn := ex fun c => cellA q.o (orC q x c) * (BkA q.b q.p q.dv x.bk * (SrcA q.s x.src * (PsA q.m x.ps * (StaA q.t x.sta * capA c))))
theorem orOpen {st s : St} {I : Nat → Prop} {q : Oq} {x : Om} {R : Asn} (h : Now st I (OrA q x * R) s) :
    ∃ c, Now st I (cellA q.o (orC q x c) * (BkA q.b q.p q.dv x.bk * (SrcA q.s x.src * (PsA q.m x.ps * (StaA q.t x.sta * (capA c * R)))))) s := by
  obtain ⟨c, n⟩ := h.ex
  exact ⟨c, n.perm (by simp only [sep_assoc])⟩
theorem orClose {st s : St} {I : Nat → Prop} {q : Oq} {x : Om} {R : Asn} {c : Cap}
    (h : Now st I (cellA q.o (orC q x c) * (BkA q.b q.p q.dv x.bk * (SrcA q.s x.src * (PsA q.m x.ps * (StaA q.t x.sta * (capA c * R)))))) s) : Now st I (OrA q x * R) s :=
  Now.toEx c (h.perm (by simp only [sep_assoc]))
theorem OrNew_spec (q : Oq) (ids d z size : Nat) (hi : ids ≤ 10000) (hs : size ≤ 60000) (st : St) :
    RCall Tryz.prog F_oram_New [.ptr q.b 0, .ptr q.s 0, .int .i64 ids, .int .i64 (2 ^ d : Nat), .int .i64 z, .int .i64 size] st fun r s => ∃ o m t, r = .ret (.ptr o 0) ∧
      ∀ st0 I bk src R, Now st0 I (BkA q.b q.p q.dv bk * (SrcA q.s src * R)) st →
        Now st0 I (OrA { q with o := o, m := m, t := t } ⟨d, z, size, bk, src, List.replicate ids (0, 0), ⟨ids, size, []⟩, []⟩ * R) s := by
  refine w_oram_New ?_
  refine (PsNew_spec ids hi st).mono ?_
  rintro _ s8 ⟨m, rfl, hN⟩
  refine ⟨_, rfl, ?_⟩
  refine (StNew_spec ids size hi hs s8).mono ?_
  rintro _ s11 ⟨t, rfl, hM⟩
  refine ⟨_, rfl, ?_⟩
  intro s13 h13
  refine ⟨_, m, t, rfl, fun st0 I bk src R h0 => ?_⟩
  have n11 := (((hM _ _ _ (hN _ _ _ h0)).le ((St.le.refl s11).new _)).own (Own.nil (.refl (s11.newC [.ptr q.b 0, .ptr q.s 0, .int .i64 (2 ^ d : Nat), .int .i64 z, .int .i64 size, .ptr m 0, .ptr t 0, .lst 1 ([] : List V) .nil]))))
  have n12 := ((hM _ _ _ (hN _ _ _ h0)).newC [.ptr q.b 0, .ptr q.s 0, .int .i64 (2 ^ d : Nat), .int .i64 z, .int .i64 size, .ptr m 0, .ptr t 0, .lst 1 ([] : List V) .nil]).own (Own.nil (.refl _))
  rw [← h13] at n12
  exact orClose (c := .nil) (n12.perm (by unfold orC; ac_rfl))
theorem bucket_spec {q : Oq} {x : Om} {m n : Nat} {B : Nat → List Cel} (k : Nat) (hk : k < n) (hz : x.z ≤ 16) (hs : x.size ≤ 60000) (hb : BkR x.bk m n x.z x.size B) (hm : m ≤ 2 ^ 40) :
    Does Tryz.prog F_oram_Oram_bucket [.ptr q.o 0, .int .i64 k] (OrA q x) fun r => ex fun c => pand (r = .ret (.lst 3 (Cels (B k)) c)) (OrA q { x with bk := x.bk.read k }) := by
  intro st I h
  obtain ⟨c, n0⟩ := orOpen (Now.init h).emp
  refine w_oram_Oram_bucket ⟨_, ldv1 n0.cells rfl, ?_⟩
  refine (BRead_spec k (by rw [hb.len]; exact hk) (hb.bkOk hm)).retEx (n0.perm (B := BkA q.b q.p q.dv x.bk * (cellA q.o (orC q x c) * (SrcA q.s x.src * (PsA q.m x.ps * (StaA q.t x.sta * (capA c * emp)))))) (by ac_rfl)) ?_
  intro c6 s5 n5
  have n5' := n5.perm (B := cellA q.o (orC q { x with bk := x.bk.read k } c) * (BkA q.b q.p q.dv (x.bk.read k) * (SrcA q.s x.src * (PsA q.m x.ps * (StaA q.t x.sta * (capA c * emp)))))) (by unfold orC; ac_rfl)
  refine ⟨_, _, _, rfl, ?_⟩
  rcases hb.cont k hk with ⟨h1, h2⟩ | h1
  · rw [h1, h2]
    exact ⟨fun _ => (Now.toEx Cap.nil (Now.toPand rfl (orClose n5'))).unemp, fun h => (by cases h)⟩
  · rw [h1]
    refine ⟨fun h => (by cases h), fun _ => ⟨_, ldv1 n5'.cells rfl, _, ldv1 n5'.cells rfl, ?_⟩⟩
    refine (Parse_spec (l := B k) c6 hz hs (hb.room k hk) (hb.ok k hk) s5).mono ?_
    rintro _ s11 ⟨c12, rfl, l11⟩
    exact ⟨_, _, _, rfl, (Now.toEx c12 (Now.toPand rfl ((orClose n5').le l11))).unemp⟩
def evR (l : List Nat) : List (Int × Int) := l.map fun (k : Nat) => ((1 : Int), (k : Int))
def evW (l : List Nat) : List (Int × Int) := l.map fun (k : Nat) => ((2 : Int), (k : Int))
theorem repl_two' (a b c d : V) : repl [a, b] 0 [c, d] = [c, d] := rfl
theorem carry_spec {q : Oq} {x : Om} {m leaf : Nat} {B : Nat → List Cel} (hd : x.d ≤ 16) (hf : leaf < 2 ^ x.d) (hz : x.z ≤ 16) (hb : BkR x.bk m (2 * 2 ^ x.d - 1) x.z x.size B) (hm : m ≤ 2 ^ 39)
    (po : PsOk x.ps) (so : StaOk x.sta) (hs : x.sta.size = x.size) (hall : ∀ c ∈ (onL x.d leaf).flatMap B, (psGet x.ps c.id).isSome = true) :
    Does Tryz.prog F_oram_Oram_carry [.ptr q.o 0, .int .i64 leaf] (OrA q x) fun r => ex fun bk => pand (r = .ret (.tup []) ∧ BkR bk (m + (x.d + 1)) (2 * 2 ^ x.d - 1) x.z x.size B ∧ bk.tr = x.bk.tr ++ evR (onL x.d leaf))
      (OrA q { x with bk := bk, sta := staPuts x.sta ((onL x.d leaf).flatMap B) }) := by
  intro st I h
  have nn := (Now.init h).emp
  obtain ⟨c, n0⟩ := orOpen nn
  have hs6 : x.size ≤ 60000 := by rw [← hs]; exact so.size
  refine w_oram_Oram_carry ⟨_, ldv1 n0.cells rfl, ?_⟩
  refine (On_spec hd hf st).mono ?_
  rintro _ s5 ⟨c6, rfl, o5⟩
  refine ⟨_, _, rfl, ?_⟩
  rw [Is_length, onL_len]
  refine ⟨fun n i s => ∃ k : Nat, i = k ∧ k ≤ x.d + 1 ∧ n = x.d + 1 - k ∧ ∃ bk, BkR bk (m + k) (2 * 2 ^ x.d - 1) x.z x.size B ∧ bk.tr = x.bk.tr ++ evR ((onL x.d leaf).take k) ∧
      Now st I (OrA q { x with bk := bk, sta := staPuts x.sta (((onL x.d leaf).take k).flatMap B) } * emp) s,
    ⟨x.d + 1, 0, rfl, by omega, rfl, x.bk, hb, by simp [evR], by simpa [staPuts] using nn.le o5.le⟩, ?_⟩
  rintro _ _ s10 ⟨k, rfl, hk, rfl, bk, hbk, htr, n10⟩
  refine br (fun hlt => ?_) fun hge => ?_
  · have hk' : k < (onL x.d leaf).length := by rw [onL_len]; omega
    have hb1 : (onL x.d leaf)[k] < 2 * 2 ^ x.d - 1 := by
      simp only [onL, List.getElem_map, List.getElem_range]
      exact atL_lt hf (by omega)
    have estep : (onL x.d leaf).take (k + 1) = (onL x.d leaf).take k ++ [(onL x.d leaf)[k]] := List.take_succ_eq_append_getElem hk'
    have hmem : (onL x.d leaf)[k] ∈ onL x.d leaf := List.getElem_mem hk'
    refine ⟨k, rfl, _, Is_get hk', ?_⟩
    generalize (onL x.d leaf)[k] = b at hb1 estep hmem ⊢
    refine (bucket_spec (x := { x with bk := bk, sta := staPuts x.sta (((onL x.d leaf).take k).flatMap B) }) b hb1 hz hs6 hbk (by omega)).retEx n10 ?_
    intro c15 s14 n14
    refine ⟨_, _, rfl, ?_⟩
    rw [Cels_length]
    refine ⟨fun n i s => ∃ j : Nat, i = j ∧ j ≤ (B b).length ∧ n = (B b).length - j ∧
        Now st I (OrA q { x with bk := bk.read b, sta := staPuts x.sta (((onL x.d leaf).take k).flatMap B ++ (B b).take j) } * emp) s,
      ⟨(B b).length, 0, rfl, by omega, rfl, by simpa using n14⟩, ?_⟩
    rintro _ _ s19 ⟨j, rfl, hj, rfl, n19⟩
    have hroom := hb.room b hb1
    refine br (fun hlt2 => ?_) fun hge2 => ?_
    · intro K44 h44
      have hj' : j < (B b).length := by omega
      refine ⟨j, rfl, _, _, _, _, Cels_get hj', ?_⟩
      have hcm : (B b)[j] ∈ (onL x.d leaf).flatMap B := List.mem_flatMap.2 ⟨b, hmem, List.getElem_mem hj'⟩
      have hget := hall _ hcm
      have estep2 : (B b).take (j + 1) = (B b).take j ++ [(B b)[j]] := List.take_succ_eq_append_getElem hj'
      generalize (B b)[j] = e at hget estep2 ⊢
      intro s24 h24
      have c24 : s24.cells s19.next = some [.int .i64 0, .int .i64 0, .lst 1 [] .nil] := by rw [h24]; exact cells_new _ _
      refine ⟨rfl, rfl, _, c24, by decide, ?_⟩
      rw [repl_three]
      intro s26 h26
      have c26 : s26.cells s19.next = some (e.cs .unk) := by rw [h26]; exact cells_set c24
      have l26 : s19.le s26 := by rw [h26]; refine St.le.set ?_ (Nat.le_refl _) _; rw [h24]; exact (St.le.refl _).new _
      have n24 := n19.newC [.int .i64 0, .int .i64 0, .lst 1 [] .nil]
      rw [← h24] at n24
      have n26 := n24.set (e.cs .unk)
      have h26' : s26 = s24.setC s19.next (e.cs .unk) := h26
      rw [← h26'] at n26
      obtain ⟨cc, n27⟩ := orOpen (n26.perm (B := OrA q { x with bk := bk.read b, sta := staPuts x.sta (((onL x.d leaf).take k).flatMap B ++ (B b).take j) } * (cellA s19.next (e.cs .unk) * emp)) (by ac_rfl))
      refine ⟨_, ldv1 n27.cells rfl, _, ldv1 c26 rfl, ?_⟩
      refine (PsGet_spec (e.id : Int) po).ret (n27.perm (B := PsA q.m x.ps * (cellA q.o (orC q { x with bk := bk.read b, sta := staPuts x.sta (((onL x.d leaf).take k).flatMap B ++ (B b).take j) } cc) * (BkA q.b q.p q.dv (bk.read b) * (SrcA q.s x.src * (StaA q.t (staPuts x.sta (((onL x.d leaf).take k).flatMap B ++ (B b).take j)) * (capA cc * (cellA s19.next (e.cs .unk) * emp))))))) (by ac_rfl)) ?_
      intro s30 n30
      refine ⟨_, _, _, rfl, ?_⟩
      rw [hget]
      intro s34 h34
      have n34 := n30.newC [.int .i64 0, .int .u64 0]
      rw [← h34] at n34
      refine ⟨rfl, rfl, _, n34.cells, by decide, ?_⟩
      rw [repl_two']
      intro s36 h36
      have n36 := n34.set [.int .i64 ((psGet x.ps e.id).getD (0, 0)).1, .int .u64 ((psGet x.ps e.id).getD (0, 0)).2]
      rw [← h36] at n36
      have n37 := n36.drop
      have m1 := n37.perm (B := cellA q.o (orC q { x with bk := bk.read b, sta := staPuts x.sta (((onL x.d leaf).take k).flatMap B ++ (B b).take j) } cc) * (PsA q.m x.ps * (BkA q.b q.p q.dv (bk.read b) * (SrcA q.s x.src * (StaA q.t (staPuts x.sta (((onL x.d leaf).take k).flatMap B ++ (B b).take j)) * (capA cc * (cellA s19.next (e.cs .unk) * emp))))))) (by ac_rfl)
      have m2 := n37.perm (B := cellA s19.next (e.cs .unk) * (cellA q.o (orC q { x with bk := bk.read b, sta := staPuts x.sta (((onL x.d leaf).take k).flatMap B ++ (B b).take j) } cc) * (PsA q.m x.ps * (BkA q.b q.p q.dv (bk.read b) * (SrcA q.s x.src * (StaA q.t (staPuts x.sta (((onL x.d leaf).take k).flatMap B ++ (B b).take j)) * (capA cc * emp))))))) (by ac_rfl)
      refine ⟨fun _ => ⟨_, ldv1 m1.cells rfl, _, _, _, _, ldvg m2.cells rfl, ?_⟩, fun h => (by cases h)⟩
      refine (StPut_spec e .unk (so.puts _)).ret (n37.perm (B := StaA q.t (staPuts x.sta (((onL x.d leaf).take k).flatMap B ++ (B b).take j)) * (cellA s19.next (e.cs .unk) * (cellA q.o (orC q { x with bk := bk.read b, sta := staPuts x.sta (((onL x.d leaf).take k).flatMap B ++ (B b).take j) } cc) * (PsA q.m x.ps * (BkA q.b q.p q.dv (bk.read b) * (SrcA q.s x.src * (capA cc * emp))))))) (by ac_rfl)) ?_
      intro s42 n42
      refine ⟨_, rfl, ?_⟩
      refine h44 _ ⟨(B b).length - (j + 1), by omega, j + 1, by rw [w64 (by omega)]; omega, by omega, rfl, ?_⟩
      have e3 : (staPuts x.sta (((onL x.d leaf).take k).flatMap B ++ (B b).take j)).put e = staPuts x.sta (((onL x.d leaf).take k).flatMap B ++ (B b).take (j + 1)) := by
        rw [estep2, ← List.append_assoc, staPuts_append _ _ [e]]; rfl
      rw [e3] at n42
      refine orClose (c := cc) ?_
      exact (n42.perm (B := cellA s19.next (e.cs .unk) * (cellA q.o (orC q { x with bk := bk.read b, sta := staPuts x.sta (((onL x.d leaf).take k).flatMap B ++ (B b).take j) } cc) * (BkA q.b q.p q.dv (bk.read b) * (SrcA q.s x.src * (PsA q.m x.ps * (StaA q.t (staPuts x.sta (((onL x.d leaf).take k).flatMap B ++ (B b).take (j + 1))) * (capA cc * emp))))))) (by ac_rfl)).drop
    · refine ⟨x.d + 1 - (k + 1), by omega, k + 1, by rw [w64 (by omega)]; omega, by omega, rfl, bk.read b, hbk.read b, ?_, ?_⟩
      · rw [hbk.tr_read, htr, estep, evR, evR, List.map_append, List.append_assoc]; rfl
      · rw [List.take_of_length_le (show (B b).length ≤ j by omega)] at n19
        rw [estep, List.flatMap_append, List.flatMap_cons, List.flatMap_nil, List.append_nil]
        exact n19
  · have hkk : k = x.d + 1 := by omega
    subst hkk
    have e : (onL x.d leaf).take (x.d + 1) = onL x.d leaf := List.take_of_length_le (by rw [onL_len]; exact Nat.le_refl _)
    rw [e] at htr n10
    exact (Now.toEx bk (Now.toPand ⟨rfl, hbk, htr⟩ n10)).unemp
theorem evict_sub {d leaf level z : Nat} {l : List Cel} (hu : Uid l) : (∀ c ∈ (evictL d leaf level z l).1, c ∈ l) ∧ (∀ c ∈ (evictL d leaf level z l).2, c ∈ l) ∧ Uid (evictL d leaf level z l).2 ∧ (evictL d leaf level z l).2.length ≤ l.length := by
  obtain ⟨hp, _, _⟩ := evict_facts (d := d) (leaf := leaf) (level := level) (z := z) hu
  refine ⟨fun c hc => hp.mem_iff.1 (List.mem_append_left _ hc), fun c hc => hp.mem_iff.1 (List.mem_append_right _ hc), ?_, ?_⟩
  · have := hu.perm hp.symm
    unfold Uid at this ⊢
    rw [List.map_append, List.nodup_append] at this
    exact this.2.1
  · have := hp.length_eq
    rw [List.length_append] at this
    omega
theorem settle_spec {q : Oq} {x : Om} {m leaf : Nat} {B : Nat → List Cel} (hd : x.d ≤ 16) (hf : leaf < 2 ^ x.d) (hz : x.z ≤ 16) (hb : BkR x.bk m (2 * 2 ^ x.d - 1) x.z x.size B) (hm : m ≤ 2 ^ 39)
    (so : StaOk x.sta) (hs : x.sta.size = x.size) (hu : Uid x.sta.l) (hlf : ∀ c ∈ x.sta.l, c.leaf < 2 ^ x.d) :
    Does Tryz.prog F_oram_Oram_settle [.ptr q.o 0, .int .i64 leaf] (OrA q x) fun r => ex fun bk => pand (r = .ret (.tup []) ∧ BkR bk (m + (x.d + 1)) (2 * 2 ^ x.d - 1) x.z x.size (settleL x.d leaf x.z (x.d + 1) (x.sta.l, B)).2 ∧ bk.tr = x.bk.tr ++ evW (onL x.d leaf).reverse)
      (OrA q { x with bk := bk, sta := ⟨x.sta.most, x.sta.size, (settleL x.d leaf x.z (x.d + 1) (x.sta.l, B)).1⟩ }) := by
  intro st I h
  have nn := (Now.init h).emp
  obtain ⟨c, n0⟩ := orOpen nn
  have hs6 : x.size ≤ 60000 := by rw [← hs]; exact so.size
  have hmost := so.most
  refine w_oram_Oram_settle ⟨_, ldv1 n0.cells rfl, ?_⟩
  refine (On_spec hd hf st).mono ?_
  rintro _ s5 ⟨c6, rfl, o5⟩
  refine ⟨_, _, rfl, ?_⟩
  rw [Is_length, onL_len]
  refine ⟨fun n i s => ∃ k : Nat, i = (k : Int) - 1 ∧ k ≤ x.d + 1 ∧ n = k ∧ ∃ (bk : Bk) (w : List Cel × (Nat → List Cel)), settleL x.d leaf x.z k w = settleL x.d leaf x.z (x.d + 1) (x.sta.l, B) ∧
      Uid w.1 ∧ w.1.length ≤ x.sta.l.length ∧ (∀ e ∈ w.1, e ∈ x.sta.l) ∧ BkR bk (m + (x.d + 1 - k)) (2 * 2 ^ x.d - 1) x.z x.size w.2 ∧ bk.tr = x.bk.tr ++ evW ((onL x.d leaf).drop k).reverse ∧
      Now st I (OrA q { x with bk := bk, sta := ⟨x.sta.most, x.sta.size, w.1⟩ } * emp) s,
    ⟨x.d + 1, x.d + 1, by rw [w64 (by omega)], Nat.le_refl _, rfl, x.bk, (x.sta.l, B), rfl, hu, Nat.le_refl _, fun e he => he, by simpa using hb, ?_, nn.le o5.le⟩, ?_⟩
  · rw [List.drop_of_length_le (by rw [onL_len]; exact Nat.le_refl _)]; simp [evW]
  rintro k _ s10 ⟨_, rfl, hk, rfl, bk, w, hw, huw, hlw, hmw, hbk, htr, n10⟩
  refine br (fun hge => ?_) fun hlt => ?_
  · obtain ⟨j, rfl⟩ : ∃ j, k = j + 1 := ⟨k - 1, by omega⟩
    have hjd : j ≤ x.d := by omega
    have ej : ((j + 1 : Nat) : Int) - 1 = (j : Int) := by omega
    rw [ej]
    obtain ⟨cc, n11⟩ := orOpen n10
    refine ⟨_, ldv1 n11.cells rfl, _, ldv1 n11.cells rfl, _, ldv1 n11.cells rfl, _, ldv1 n11.cells rfl, _, ldv1 n11.cells rfl, ?_⟩
    have hlong := so.long
    obtain ⟨e1, e2, e3⟩ := evict_facts (d := x.d) (leaf := leaf) (level := j) (z := x.z) huw
    obtain ⟨f1, f2, f3, f4⟩ := evict_sub (d := x.d) (leaf := leaf) (level := j) (z := x.z) huw
    refine (Evict_spec (x := ⟨x.sta.most, x.sta.size, w.1⟩) hd hf hjd (show x.z ≤ 2 ^ 32 by omega) (show w.1.length ≤ 10000 by omega) (fun e he => (so.ok e (hmw e he)).id) (fun e he => hlf e (hmw e he))).retEx
      (n11.perm (B := StaA q.t ⟨x.sta.most, x.sta.size, w.1⟩ * (cellA q.o (orC q { x with bk := bk, sta := ⟨x.sta.most, x.sta.size, w.1⟩ } cc) * (BkA q.b q.p q.dv bk * (SrcA q.s x.src * (PsA q.m x.ps * (capA cc * emp)))))) (by ac_rfl)) ?_
    intro c18 s17 n17
    have n18 := n17.perm (B := cellA q.o (orC q { x with bk := bk, sta := ⟨x.sta.most, x.sta.size, w.1⟩ } cc) * (BkA q.b q.p q.dv bk * (SrcA q.s x.src * (PsA q.m x.ps * (StaA q.t ⟨x.sta.most, x.sta.size, (evictL x.d leaf j x.z w.1).2⟩ * (capA cc * emp)))))) (by ac_rfl)
    refine ⟨_, _, rfl, ldv1 n18.cells rfl, ldv1 n18.cells rfl, ?_⟩
    have okc : ∀ e ∈ (evictL x.d leaf j x.z w.1).1, CelOk e x.size := fun e he => by rw [← hs]; exact so.ok e (hmw e (f1 e he))
    refine (Code_spec c18 hz hs6 e2 okc s17).mono ?_
    rintro _ s20 ⟨c21, rfl, o20⟩
    have n20 := n18.le o20.le
    have hkl : j < (onL x.d leaf).length := by rw [onL_len]; omega
    have hat : (onL x.d leaf)[j] = atL x.d leaf j := by simp only [onL, List.getElem_map, List.getElem_range]
    refine ⟨_, _, _, rfl, _, ldv1 n20.cells rfl, j, rfl, _, Is_get hkl, ?_⟩
    have hlt : atL x.d leaf j < 2 * 2 ^ x.d - 1 := atL_lt hf hjd
    rw [hat]
    have hm2 : m + (x.d + 1 - (j + 1)) ≤ 2 ^ 40 := by omega
    refine (BWrite_spec (atL x.d leaf j) (by rw [hbk.len]; exact hlt) (hbk.bkOk hm2) _ c21).ret (n20.perm (B := BkA q.b q.p q.dv bk * (cellA q.o (orC q { x with bk := bk, sta := ⟨x.sta.most, x.sta.size, w.1⟩ } cc) * (SrcA q.s x.src * (PsA q.m x.ps * (StaA q.t ⟨x.sta.most, x.sta.size, (evictL x.d leaf j x.z w.1).2⟩ * (capA cc * emp)))))) (by ac_rfl)) ?_
    intro s27 n27
    obtain ⟨g1, g2, g3⟩ := hbk.write hlt e2 okc
    refine ⟨_, rfl, j, by omega, j, by rw [w64 (by omega)], by omega, rfl, (bk.write (atL x.d leaf j) (codeL (evictL x.d leaf j x.z w.1).1 x.z x.size)).1, ((evictL x.d leaf j x.z w.1).2, updB w.2 (atL x.d leaf j) (evictL x.d leaf j x.z w.1).1), by rw [← hw]; rfl, f3, Nat.le_trans f4 hlw, fun e he => hmw e (f2 e he), ?_, ?_, ?_⟩
    · exact g2.mono (by omega)
    · rw [g3, htr, List.drop_eq_getElem_cons hkl, hat, List.reverse_cons, evW, evW, List.map_append, List.append_assoc]; rfl
    · exact orClose (c := cc) (n27.perm (by unfold orC; ac_rfl))
  · have hkk : k = 0 := by omega
    subst hkk
    have hw' : w = settleL x.d leaf x.z (x.d + 1) (x.sta.l, B) := hw
    rw [← hw']
    rw [List.drop_zero] at htr
    exact (Now.toEx bk (Now.toPand ⟨rfl, by simpa using hbk, htr⟩ n10)).unemp
end Go.Proofs.YtffenelcgjdbiaaGreatDoor
namespace Go.Proofs.YtffenelcgjdbiaaGreatDoor
open Go Go.Sim
set_option maxRecDepth 100000
theorem nodup_le : ∀ (n : Nat) (l : List Nat), l.Nodup → (∀ x ∈ l, x < n) → l.length ≤ n
  | 0, l, _, h => by
    cases l with
    | nil => exact Nat.le_refl _
    | cons a r => have := h a (List.mem_cons_self ..); omega
  | n + 1, l, hn, h => by
    have h1 := nodup_le n (l.erase n) (hn.sublist (List.erase_sublist ..)) fun x hx => by
      have h2 := (List.Nodup.mem_erase_iff hn).1 hx
      have := h x h2.2
      have := h2.1
      omega
    have := List.length_erase (l := l) (a := n)
    split at this <;> omega
structure Os where
  ps : Ps
  l : List Cel
  B : Nat → List Cel
def allC (d : Nat) (y : Os) : List Cel := y.l ++ allB (2 * 2 ^ d - 1) y.B
structure OsOk (d size : Nat) (y : Os) : Prop where
  full : PsFull y.ps
  leaf : ∀ (i : Int) p, psGet y.ps i = some p → p.1 < 2 ^ d
  uid : Uid (allC d y)
  cell : ∀ c ∈ allC d y, CelOk c size ∧ ∃ dr, psGet y.ps c.id = some (c.leaf, dr)
  on : ∀ k < 2 * 2 ^ d - 1, ∀ c ∈ y.B k, k ∈ onL d c.leaf
  there : ∀ (i : Int) p, psGet y.ps i = some p → ∃ c ∈ allC d y, (c.id : Int) = i
def getO (d : Nat) (y : Os) (i : Int) : Option Cel := look (allC d y) i
def Near (d : Nat) (y : Os) (i : Int) : Prop := ∀ c ∈ allB (2 * 2 ^ d - 1) y.B, (c.id : Int) ≠ i
theorem look_perm {l m : List Cel} (h : Uid l) (p : l.Perm m) (i : Int) : look l i = look m i := by
  cases e : look m i with
  | none => exact look_new fun x hx => look_none e x (p.mem_iff.1 hx)
  | some c =>
    obtain ⟨h1, h2⟩ := look_some e
    rw [← h2]
    exact look_mem h (p.mem_iff.2 h1)
theorem look_append (l m : List Cel) (i : Int) : look (l ++ m) i = (look l i).or (look m i) := by unfold look; exact List.find?_append
theorem Uid.left {l m : List Cel} (h : Uid (l ++ m)) : Uid l := by
  unfold Uid at h ⊢
  rw [List.map_append, List.nodup_append] at h
  exact h.1
theorem near_look {d : Nat} {y : Os} {i : Int} (h : Near d y i) : look y.l i = getO d y i := by
  unfold getO allC
  rw [look_append, look_new h, Option.or_none]
theorem psHas_get {l : Ps} {i : Int} {p : Nat × Nat} (h : psGet l i = some p) : psHas l i = true := by
  unfold psGet at h
  split at h
  · rename_i hh; exact hh.1
  · cases h
theorem psHas_set (l : Ps) (i j : Int) (a b : Nat) : psHas (psSet l i a b) j = psHas l j := by unfold psSet; split <;> simp [psHas]
theorem psHas_clear (l : Ps) (i j : Int) : psHas (psClear l i) j = psHas l j := by unfold psClear; split <;> simp [psHas]
theorem psSet_length (l : Ps) (i : Int) (a b : Nat) : (psSet l i a b).length = l.length := by unfold psSet; split <;> simp
theorem psClear_length (l : Ps) (i : Int) : (psClear l i).length = l.length := by unfold psClear; split <;> simp
theorem psAt_set {l : Ps} {i j : Int} {p : Nat × Nat} (hi : psHas l i = true) (hj : psHas l j = true) : (l.set (i - 1).toNat p).getD (j - 1).toNat (0, 0) = if j = i then p else psAt l j := by
  obtain ⟨a, rfl, ha, ha2⟩ := ps_idx hi
  obtain ⟨b, rfl, hb, hb2⟩ := ps_idx hj
  rw [ha2, hb2, List.getD_eq_getElem?_getD, List.getElem?_set]
  by_cases h : a = b
  · subst h; simp [ha]
  · rw [if_neg h, if_neg (by omega), psAt, hb2, List.getD_eq_getElem?_getD]
theorem psGet_set {l : Ps} {i : Int} {a b : Nat} (hi : psHas l i = true) (j : Int) : psGet (psSet l i a b) j = if j = i then some (a, b) else psGet l j := by
  by_cases hj : psHas l j = true
  · have e : psAt (psSet l i a b) j = if j = i then (a + 1, b) else psAt l j := by
      have := psAt_set (p := (a + 1, b)) hi hj
      rw [← this, psAt, psSet, if_pos hi]
    unfold psGet
    rw [psHas_set, e]
    by_cases h : j = i
    · simp only [if_pos h]; rw [if_pos ⟨hj, by omega⟩]; rfl
    · simp only [if_neg h]
  · have hne : j ≠ i := fun e => hj (e ▸ hi)
    unfold psGet
    rw [psHas_set, if_neg hne]
    simp [hj]
theorem psGet_clear {l : Ps} {i : Int} (j : Int) : psGet (psClear l i) j = if j = i then none else psGet l j := by
  by_cases hi : psHas l i = true
  · by_cases hj : psHas l j = true
    · have e : psAt (psClear l i) j = if j = i then (0, 0) else psAt l j := by
        have := psAt_set (p := (0, 0)) hi hj
        rw [← this, psAt, psClear, if_pos hi]
      unfold psGet
      rw [psHas_clear, e]
      by_cases h : j = i
      · simp only [if_pos h]; rw [if_neg (fun h => h.2 rfl)]
      · simp only [if_neg h]
    · have hne : j ≠ i := fun e => hj (e ▸ hi)
      unfold psGet
      rw [psHas_clear, if_neg hne]
      simp [hj]
  · have e : psClear l i = l := by rw [psClear, if_neg hi]
    rw [e]
    by_cases h : j = i
    · rw [if_pos h, h, psGet, if_neg fun h => hi h.1]
    · rw [if_neg h]
theorem PsFull.set {l : Ps} (h : PsFull l) (i : Int) {a b : Nat} (ha : a ≤ 65535) (hb : b < 2 ^ 64) : PsFull (psSet l i a b) := by
  unfold psSet
  split
  · refine ⟨⟨by rw [List.length_set]; exact h.ok.long, fun p hp => ?_⟩, fun p hp => ?_⟩
    · rcases List.mem_or_eq_of_mem_set hp with hp | rfl
      · exact h.ok.leaf p hp
      · exact ⟨by show a + 1 ≤ _; omega, hb⟩
    · rcases List.mem_or_eq_of_mem_set hp with hp | rfl
      · exact h.none p hp
      · intro h0; exact absurd h0 (Nat.succ_ne_zero a)
  · exact h
theorem PsFull.clear {l : Ps} (h : PsFull l) (i : Int) : PsFull (psClear l i) := by
  unfold psClear
  split
  · refine ⟨⟨by rw [List.length_set]; exact h.ok.long, fun p hp => ?_⟩, fun p hp => ?_⟩
    · rcases List.mem_or_eq_of_mem_set hp with hp | rfl
      · exact h.ok.leaf p hp
      · exact ⟨Nat.zero_le _, by decide⟩
    · rcases List.mem_or_eq_of_mem_set hp with hp | rfl
      · exact h.none p hp
      · exact fun _ => rfl
  · exact h
theorem OsOk.short {d size : Nat} {y : Os} (h : OsOk d size y) : (allC d y).length ≤ y.ps.length := by
  have h1 : ((allC d y).map fun c => c.id - 1).length ≤ y.ps.length := by
    have hid : ∀ c ∈ allC d y, 1 ≤ c.id ∧ c.id ≤ y.ps.length := fun c hc => by
      obtain ⟨_, dr, hg⟩ := h.cell c hc
      have := psHas_get hg
      simp only [psHas, decide_eq_true_eq] at this
      omega
    refine nodup_le _ _ ?_ fun x hx => ?_
    · have hu := h.uid
      unfold Uid at hu
      rw [List.Nodup, List.pairwise_map] at hu ⊢
      refine hu.imp_of_mem fun {a b} ha hb hab e => hab ?_
      have := (hid a ha).1
      have := (hid b hb).1
      omega
    · obtain ⟨c, hc, rfl⟩ := List.mem_map.1 hx
      have := hid c hc
      omega
  rwa [List.length_map] at h1
theorem OsOk.celLeaf {d size : Nat} {y : Os} (h : OsOk d size y) {c : Cel} (hc : c ∈ allC d y) : c.leaf < 2 ^ d := by
  obtain ⟨_, dr, hg⟩ := h.cell c hc
  exact h.leaf _ _ hg
theorem OsOk.move {d size : Nat} {y y' : Os} (h : OsOk d size y) (hp : y'.ps = y.ps) (p : (allC d y').Perm (allC d y)) (hon : ∀ k < 2 * 2 ^ d - 1, ∀ c ∈ y'.B k, k ∈ onL d c.leaf) : OsOk d size y' ∧ ∀ i, getO d y' i = getO d y i := by
  have hu := h.uid.perm p.symm
  refine ⟨⟨hp ▸ h.full, hp ▸ h.leaf, hu, fun c hc => by rw [hp]; exact h.cell c (p.mem_iff.1 hc), hon, fun i q hq => ?_⟩, fun i => look_perm hu p i⟩
  rw [hp] at hq
  obtain ⟨c, hc, e⟩ := h.there i q hq
  exact ⟨c, p.mem_iff.2 hc, e⟩
theorem carry_law {d size leaf : Nat} {y : Os} (h : OsOk d size y) (hl : leaf < 2 ^ d) :
    OsOk d size ⟨y.ps, y.l ++ (onL d leaf).flatMap y.B, offB d leaf y.B (d + 1)⟩ ∧ ∀ i, getO d ⟨y.ps, y.l ++ (onL d leaf).flatMap y.B, offB d leaf y.B (d + 1)⟩ i = getO d y i := by
  refine h.move rfl ?_ ?_
  · unfold allC
    dsimp only
    rw [List.append_assoc]
    exact (carry_perm hl y.B (d + 1) (Nat.le_refl _)).symm.append_left _
  · intro k hk c hc
    unfold offB at hc
    dsimp only at hc
    split at hc
    · cases hc
    · exact h.on k hk c hc
theorem carry_near {d size leaf : Nat} {y : Os} (h : OsOk d size y) {i : Int} (hi : ∀ p, psGet y.ps i = some p → p.1 = leaf) : Near d ⟨y.ps, y.l ++ (onL d leaf).flatMap y.B, offB d leaf y.B (d + 1)⟩ i := by
  intro c hc e
  obtain ⟨k, hk, hck⟩ := mem_allB.1 hc
  unfold offB at hck
  dsimp only at hck
  split at hck
  · cases hck
  · rename_i hno
    have hall : c ∈ allC d y := List.mem_append_right _ (mem_allB.2 ⟨k, hk, hck⟩)
    obtain ⟨_, dr, hg⟩ := h.cell c hall
    rw [e] at hg
    have := hi _ hg
    have hon := h.on k hk c hck
    rw [show c.leaf = leaf from this] at hon
    exact hno hon
theorem settle_osok {d size leaf z : Nat} {y : Os} {C : Nat → List Cel} (h : OsOk d size y) (hl : leaf < 2 ^ d) (hC : y.B = offB d leaf C (d + 1)) :
    OsOk d size ⟨y.ps, (settleL d leaf z (d + 1) (y.l, C)).1, (settleL d leaf z (d + 1) (y.l, C)).2⟩ ∧
    ∀ i, getO d ⟨y.ps, (settleL d leaf z (d + 1) (y.l, C)).1, (settleL d leaf z (d + 1) (y.l, C)).2⟩ i = getO d y i := by
  obtain ⟨h1, h2, h3⟩ := settle_law (z := z) hl (d + 1) (y.l, C) (Nat.le_refl _) h.uid.left
  refine h.move rfl ?_ ?_
  · unfold allC
    dsimp only
    rw [hC]; exact h1
  · intro k hk c hc
    by_cases hk2 : k ∈ (List.range (d + 1)).map (atL d leaf)
    · exact (h3 k hk2).2 c hc
    · have e := h2 k hk2
      dsimp only at hc e
      rw [e] at hc
      refine h.on k hk c ?_
      rw [hC, offB, if_neg hk2]; exact hc
theorem replace_law {d size : Nat} {y : Os} (h : OsOk d size y) {c : Cel} (hn : Near d y c.id) (hh : psHas y.ps c.id = true) (hc : CelOk c size) (hl : c.leaf < 2 ^ d) (hd : d ≤ 16) {dr : Nat} (hdr : dr < 2 ^ 64) {l' : List Cel} (hp : l'.Perm (c :: delC y.l c.id)) :
    OsOk d size ⟨psSet y.ps c.id c.leaf dr, l', y.B⟩ ∧ Near d ⟨psSet y.ps c.id c.leaf dr, l', y.B⟩ c.id ∧
    ∀ i, getO d ⟨psSet y.ps c.id c.leaf dr, l', y.B⟩ i = if i = c.id then some c else getO d y i := by
  have hpow : 2 ^ d ≤ 2 ^ 16 := Nat.pow_le_pow_right (by decide) hd
  have hsub : ∀ e ∈ delC y.l c.id, e ∈ y.l ∧ (e.id : Int) ≠ c.id := by
    intro e he
    cases hlk : look y.l c.id with
    | none => rw [delC_none hlk] at he; exact ⟨he, look_none hlk e he⟩
    | some c0 =>
      have p0 := delC_perm hlk
      have hu := (h.uid.left.perm p0.symm).tail
      have := (look_some hlk).2
      exact ⟨p0.mem_iff.1 (List.mem_cons_of_mem _ he), by rw [← this]; exact hu.2 e he⟩
  have hmem : ∀ e ∈ allC d ⟨psSet y.ps c.id c.leaf dr, l', y.B⟩, e = c ∨ (e ∈ allC d y ∧ (e.id : Int) ≠ c.id) := by
    intro e he
    rcases List.mem_append.1 he with he | he
    · rcases List.mem_cons.1 (hp.mem_iff.1 he) with he | he
      · exact .inl he
      · obtain ⟨h1, h2⟩ := hsub e he
        exact .inr ⟨List.mem_append_left _ h1, h2⟩
    · exact .inr ⟨List.mem_append_right _ he, hn e he⟩
  have hmem2 : ∀ e ∈ allC d y, (e.id : Int) ≠ c.id → e ∈ allC d ⟨psSet y.ps c.id c.leaf dr, l', y.B⟩ := by
    intro e he hne
    rcases List.mem_append.1 he with he | he
    · refine List.mem_append_left _ (hp.mem_iff.2 (List.mem_cons_of_mem _ ?_))
      cases hlk : look y.l c.id with
      | none => rw [delC_none hlk]; exact he
      | some c0 =>
        rcases List.mem_cons.1 ((delC_perm hlk).mem_iff.2 he) with e0 | he
        · exfalso; rw [e0] at hne; exact hne (look_some hlk).2
        · exact he
    · exact List.mem_append_right _ he
  have hcm : c ∈ allC d ⟨psSet y.ps c.id c.leaf dr, l', y.B⟩ := List.mem_append_left _ (hp.mem_iff.2 (List.mem_cons_self ..))
  have hu : Uid (allC d ⟨psSet y.ps c.id c.leaf dr, l', y.B⟩) := by
    have hud : Uid (delC y.l c.id ++ allB (2 * 2 ^ d - 1) y.B) := by
      cases hlk : look y.l c.id with
      | none => rw [delC_none hlk]; exact h.uid
      | some c0 =>
        have : Uid ((c0 :: delC y.l c.id) ++ allB (2 * 2 ^ d - 1) y.B) := h.uid.perm ((delC_perm hlk).symm.append_right _)
        exact (Uid.tail this).1
    refine Uid.perm ?_ (hp.symm.append_right (allB (2 * 2 ^ d - 1) y.B))
    show Uid (c :: (delC y.l c.id ++ allB (2 * 2 ^ d - 1) y.B))
    unfold Uid at hud ⊢
    rw [List.map_cons, List.nodup_cons]
    refine ⟨fun hm => ?_, hud⟩
    obtain ⟨e, he, e2⟩ := List.mem_map.1 hm
    rcases List.mem_append.1 he with he | he
    · exact (hsub e he).2 e2
    · exact hn e he e2
  refine ⟨⟨h.full.set _ (by omega) hdr, ?_, hu, ?_, h.on, ?_⟩, hn, ?_⟩
  · intro i p hg
    dsimp only at hg
    rw [psGet_set hh] at hg
    split at hg
    · cases hg; exact hl
    · exact h.leaf i p hg
  · intro e he
    dsimp only
    rcases hmem e he with rfl | ⟨h1, h2⟩
    · exact ⟨hc, dr, by rw [psGet_set hh, if_pos rfl]⟩
    · obtain ⟨k1, dr', k2⟩ := h.cell e h1
      exact ⟨k1, dr', by rw [psGet_set hh, if_neg h2]; exact k2⟩
  · intro i p hg
    dsimp only at hg
    rw [psGet_set hh] at hg
    split at hg
    · rename_i e; exact ⟨c, hcm, e.symm⟩
    · rename_i hne
      obtain ⟨e, he, e2⟩ := h.there i p hg
      exact ⟨e, hmem2 e he (by rw [e2]; exact hne), e2⟩
  · intro i
    by_cases hi : i = c.id
    · rw [if_pos hi, hi]; exact look_mem hu hcm
    · rw [if_neg hi]
      cases hg : getO d y i with
      | none =>
        refine look_new fun e he e2 => ?_
        rcases hmem e he with rfl | ⟨h1, h2⟩
        · exact hi e2.symm
        · exact look_none hg e h1 e2
      | some e =>
        obtain ⟨h1, h2⟩ := look_some hg
        rw [← h2]
        exact look_mem hu (hmem2 e h1 (by rw [h2]; exact hi))
theorem remove_law {d size : Nat} {y : Os} (h : OsOk d size y) {id : Int} (hn : Near d y id) :
    OsOk d size ⟨psClear y.ps id, delC y.l id, y.B⟩ ∧ Near d ⟨psClear y.ps id, delC y.l id, y.B⟩ id ∧
    ∀ i, getO d ⟨psClear y.ps id, delC y.l id, y.B⟩ i = if i = id then none else getO d y i := by
  have hsub : ∀ e ∈ delC y.l id, e ∈ y.l ∧ (e.id : Int) ≠ id := by
    intro e he
    cases hlk : look y.l id with
    | none => rw [delC_none hlk] at he; exact ⟨he, look_none hlk e he⟩
    | some c0 =>
      have p0 := delC_perm hlk
      have hu := (h.uid.left.perm p0.symm).tail
      have := (look_some hlk).2
      exact ⟨p0.mem_iff.1 (List.mem_cons_of_mem _ he), by rw [← this]; exact hu.2 e he⟩
  have hmem : ∀ e ∈ allC d ⟨psClear y.ps id, delC y.l id, y.B⟩, e ∈ allC d y ∧ (e.id : Int) ≠ id := by
    intro e he
    rcases List.mem_append.1 he with he | he
    · obtain ⟨h1, h2⟩ := hsub e he
      exact ⟨List.mem_append_left _ h1, h2⟩
    · exact ⟨List.mem_append_right _ he, hn e he⟩
  have hmem2 : ∀ e ∈ allC d y, (e.id : Int) ≠ id → e ∈ allC d ⟨psClear y.ps id, delC y.l id, y.B⟩ := by
    intro e he hne
    rcases List.mem_append.1 he with he | he
    · refine List.mem_append_left _ ?_
      show e ∈ delC y.l id
      cases hlk : look y.l id with
      | none => rw [delC_none hlk]; exact he
      | some c0 =>
        rcases List.mem_cons.1 ((delC_perm hlk).mem_iff.2 he) with e0 | he
        · exfalso; rw [e0] at hne; exact hne (look_some hlk).2
        · exact he
    · exact List.mem_append_right _ he
  have hu : Uid (allC d ⟨psClear y.ps id, delC y.l id, y.B⟩) := by
    show Uid (delC y.l id ++ allB (2 * 2 ^ d - 1) y.B)
    cases hlk : look y.l id with
    | none => rw [delC_none hlk]; exact h.uid
    | some c0 =>
      have : Uid ((c0 :: delC y.l id) ++ allB (2 * 2 ^ d - 1) y.B) := h.uid.perm ((delC_perm hlk).symm.append_right _)
      exact (Uid.tail this).1
  refine ⟨⟨h.full.clear _, ?_, hu, ?_, h.on, ?_⟩, hn, ?_⟩
  · intro i p hg
    dsimp only at hg
    rw [psGet_clear] at hg
    split at hg
    · cases hg
    · exact h.leaf i p hg
  · intro e he
    dsimp only
    obtain ⟨h1, h2⟩ := hmem e he
    obtain ⟨k1, dr', k2⟩ := h.cell e h1
    exact ⟨k1, dr', by rw [psGet_clear, if_neg h2]; exact k2⟩
  · intro i p hg
    dsimp only at hg
    rw [psGet_clear] at hg
    split at hg
    · cases hg
    · rename_i hne
      obtain ⟨e, he, e2⟩ := h.there i p hg
      exact ⟨e, hmem2 e he (by rw [e2]; exact hne), e2⟩
  · intro i
    by_cases hi : i = id
    · rw [if_pos hi]
      exact look_new fun e he e2 => (hmem e he).2 (e2.trans hi)
    · rw [if_neg hi]
      cases hg : getO d y i with
      | none => exact look_new fun e he e2 => look_none hg e (hmem e he).1 e2
      | some e =>
        obtain ⟨h1, h2⟩ := look_some hg
        rw [← h2]
        exact look_mem hu (hmem2 e h1 (by rw [h2]; exact hi))
theorem putC_perm (l : List Cel) (c : Cel) : (putC l c).Perm (c :: delC l c.id) := by
  induction l with
  | nil => exact .refl _
  | cons x r ih =>
    rw [putC, delC]
    by_cases h : c.id = x.id
    · rw [if_pos h, if_pos (by omega)]
    · rw [if_neg h, if_neg (by omega)]
      exact (ih.cons x).trans (.swap ..)
structure DrOk (ps : Ps) (shown : List Nat) (used : Nat) : Prop where
  kept : ∀ (i : Int) p, psGet ps i = some p → p.2 < used ∧ p.2 ∉ shown
  one : ∀ (i j : Int) p q, psGet ps i = some p → psGet ps j = some q → p.2 = q.2 → i = j
  nodup : shown.Nodup
  lt : ∀ a ∈ shown, a < used
theorem draw_law {ps ps' : Ps} {shown : List Nat} {used sh : Nat} {id : Int} (h : DrOk ps shown used) (hsh : sh = (match psGet ps id with | some p => p.2 | none => used))
    (hne : ∀ i, i ≠ id → psGet ps' i = psGet ps i) (hid : ∀ p, psGet ps' id = some p → p.2 = used + 1) : DrOk ps' (shown ++ [sh]) (used + 2) := by
  have hs1 : sh ≤ used ∧ sh ∉ shown := by
    cases e : psGet ps id with
    | none => rw [e] at hsh; subst hsh; exact ⟨Nat.le_refl _, fun hm => absurd (h.lt _ hm) (Nat.lt_irrefl _)⟩
    | some p => rw [e] at hsh; subst hsh; have := h.kept id p e; exact ⟨Nat.le_of_lt this.1, this.2⟩
  have hs2 : ∀ i p, i ≠ id → psGet ps i = some p → p.2 ≠ sh := by
    intro i p hi hp e2
    cases e : psGet ps id with
    | none => rw [e] at hsh; dsimp only at hsh; have := (h.kept i p hp).1; omega
    | some q => rw [e] at hsh; dsimp only at hsh; exact hi (h.one i id p q hp e (by omega))
  refine ⟨?_, ?_, ?_, ?_⟩
  · intro i p hp
    by_cases hi : i = id
    · subst hi
      have := hid p hp
      refine ⟨by omega, fun hm => ?_⟩
      rcases List.mem_append.1 hm with hm | hm
      · have := h.lt _ hm; omega
      · rw [List.mem_singleton] at hm; omega
    · rw [hne i hi] at hp
      have h1 := h.kept i p hp
      refine ⟨by omega, fun hm => ?_⟩
      rcases List.mem_append.1 hm with hm | hm
      · exact h1.2 hm
      · rw [List.mem_singleton] at hm; exact hs2 i p hi hp hm
  · intro i j p q hp hq e
    by_cases hi : i = id
    · by_cases hj : j = id
      · rw [hi, hj]
      · rw [hne j hj] at hq
        have := (h.kept j q hq).1
        rw [hi] at hp
        have := hid p hp
        omega
    · by_cases hj : j = id
      · rw [hne i hi] at hp
        have := (h.kept i p hp).1
        rw [hj] at hq
        have := hid q hq
        omega
      · rw [hne i hi] at hp
        rw [hne j hj] at hq
        exact h.one i j p q hp hq e
  · rw [List.nodup_append]
    refine ⟨h.nodup, by simp, fun a ha b hb => ?_⟩
    rw [List.mem_singleton] at hb
    subst hb
    intro e
    subst e
    exact hs1.2 ha
  · intro a ha
    rcases List.mem_append.1 ha with ha | ha
    · have := h.lt a ha; omega
    · rw [List.mem_singleton] at ha; omega
end Go.Proofs.YtffenelcgjdbiaaGreatDoor
namespace Go.Proofs.YtffenelcgjdbiaaGreatDoor
open Go Go.Sim
set_option maxRecDepth 100000
structure Og where
  d : Nat
  z : Nat
  size : Nat
  ids : Nat
  m : Nat
  used : Nat
  tape : List Nat
  dat : Int → Option (List UInt8)
  shown : List Nat
  tr : List (Int × Int)
  pd : Int → Option Nat
structure Inv (g : Og) (x : Om) (B : Nat → List Cel) : Prop where
  d : x.d = g.d
  z : x.z = g.z
  size : x.size = g.size
  src : x.src = ⟨g.tape, g.used⟩
  most : x.sta.most = g.ids
  ssz : x.sta.size = g.size
  shown : x.shown = g.shown
  bk : BkR x.bk g.m (2 * 2 ^ g.d - 1) g.z g.size B
  tr : x.bk.tr = g.tr
  os : OsOk g.d g.size ⟨x.ps, x.sta.l, B⟩
  long : x.ps.length = g.ids
  dr : DrOk x.ps g.shown g.used
  dat : ∀ i, (getO g.d ⟨x.ps, x.sta.l, B⟩ i).map (·.data) = g.dat i
  pd : ∀ i, (psGet x.ps i).map (·.2) = g.pd i
structure GOk (g : Og) : Prop where
  d : g.d ≤ 16
  z : g.z ≤ 16
  size : g.size ≤ 60000
  ids : g.ids ≤ 10000
  m : g.m ≤ 2 ^ 38
  used : g.used ≤ 2 ^ 38
  word : ∀ n ∈ g.tape, n < 2 ^ 32
  tape : g.tape.length ≤ 2 ^ 40
  shown : g.shown.length ≤ 2 ^ 38
def OrS (q : Oq) (g : Og) : Asn := ex fun w : Om × (Nat → List Cel) => pand (Inv g w.1 w.2) (OrA q w.1)
def Og.accP (g : Og) (dat : Int → Option (List UInt8)) (id : Int) : Int → Option Nat := fun i => if i = id then (dat id).map fun _ => g.used + 1 else g.pd i
def Og.acc (g : Og) (dat : Int → Option (List UInt8)) (id : Int) (leaf : Nat) : Og :=
  { g with m := g.m + 2 * (g.d + 1), used := g.used + 2, dat := dat, shown := g.shown ++ [(g.pd id).getD g.used], tr := g.tr ++ (evR (onL g.d leaf) ++ evW (onL g.d leaf).reverse), pd := g.accP dat id }
structure Mid (g : Og) (dat : Int → Option (List UInt8)) (id : Int) (ps : Ps) (sta : Sta) (B : Nat → List Cel) : Prop where
  most : sta.most = g.ids
  ssz : sta.size = g.size
  os : OsOk g.d g.size ⟨ps, sta.l, B⟩
  near : Near g.d ⟨ps, sta.l, B⟩ id
  long : ps.length = g.ids
  dat : ∀ i, (getO g.d ⟨ps, sta.l, B⟩ i).map (·.data) = dat i
theorem staOk_of {d size ids : Nat} {ps : Ps} {l : List Cel} {B : Nat → List Cel} (h : OsOk d size ⟨ps, l, B⟩) (hl : ps.length = ids) (hi : ids ≤ 10000) (hs : size ≤ 60000) : StaOk ⟨ids, size, l⟩ :=
  ⟨hi, hs, fun c hc => (h.cell c (List.mem_append_left _ hc)).1, by
    have := h.short
    unfold allC at this
    rw [List.length_append] at this
    show l.length ≤ ids
    dsimp only at this
    omega⟩
def orK (q : Oq) (d z size : Nat) (shown : List Nat) (c : Cap) : List V := [.ptr q.b 0, .ptr q.s 0, .int .i64 (2 ^ d : Nat), .int .i64 z, .int .i64 size, .ptr q.m 0, .ptr q.t 0, .lst 1 (U64s shown) c]
def posC (leaf dr : Nat) : List V := [.int .i64 leaf, .int .u64 dr]
theorem access_spec {q : Oq} {g : Og} (gok : GOk g) (id : Int) {f3 : Nat} {f3c : List V} {D D' : Asn} {ok : Bool} {dat' : Int → Option (List UInt8)} (hcall : callOk Tryz.prog f3 = true)
    (hdo : ∀ (x : Om) (B : Nat → List Cel), x.size = g.size → Mid g g.dat id x.ps x.sta B → Does Tryz.prog f3 f3c (OrA q x * D) fun r => ex fun w : Ps × Sta => pand (r = .ret (.bool ok) ∧ Mid g dat' id w.1 w.2 B ∧ ∀ i, i ≠ id → psGet w.1 i = psGet x.ps i) (OrA q { x with ps := w.1, sta := w.2 } * D')) :
    Does Tryz.prog F_oram_Oram_access [.ptr q.o 0, .int .i64 id, .fn f3 f3c] (OrS q g * D) fun r => ex fun w : Nat => pand (r = .ret (.bool ok) ∧ w < 2 ^ g.d) (OrS q (g.acc dat' id w) * D') := by
  intro st I h
  obtain ⟨⟨⟨xd, xz, xs, bk, src, ps, ⟨sm, ss, sl⟩, shown⟩, B⟩, n0⟩ := (Now.init h).ex
  obtain ⟨inv, n0⟩ := n0.pand
  obtain ⟨h1, h2, h3, hsrc, hmost, hssz, hshown, hbk, htr, hos, hlong, hdr, hdat, hpd⟩ := inv
  dsimp only at h1 h2 h3 hsrc hmost hssz hshown hbk htr hos hlong hdr hdat hpd n0
  subst h1 h2 h3 hsrc hmost hssz hshown
  obtain ⟨gd, gz, gsz, gids, gm, gu, gt, gword, gtl, gsh⟩ : g.d ≤ 16 ∧ g.z ≤ 16 ∧ g.size ≤ 60000 ∧ g.ids ≤ 10000 ∧ g.m ≤ 2 ^ 38 ∧ g.used ≤ 2 ^ 38 ∧ True ∧ (∀ n ∈ g.tape, n < 2 ^ 32) ∧ g.tape.length ≤ 2 ^ 40 ∧ g.shown.length ≤ 2 ^ 38 :=
    ⟨gok.d, gok.z, gok.size, gok.ids, gok.m, gok.used, trivial, gok.word, gok.tape, gok.shown⟩
  have sok : ∀ u, u ≤ 2 ^ 40 → SrcOk ⟨g.tape, u⟩ := fun u hu => ⟨hu, gtl, gword⟩
  have hpow : 2 ^ g.d ≤ 2 ^ 16 := Nat.pow_le_pow_right (by decide) gd
  obtain ⟨c, n1⟩ := orOpen n0
  have n1 : Now st I (cellA q.o (orK q g.d g.z g.size g.shown c) * (BkA q.b q.p q.dv bk * (SrcA q.s ⟨g.tape, g.used⟩ * (PsA q.m ps * (StaA q.t ⟨g.ids, g.size, sl⟩ * (capA c * D)))))) st := n1
  obtain ⟨K, hK⟩ : ∃ K, K = BkA q.b q.p q.dv bk * (StaA q.t ⟨g.ids, g.size, sl⟩ * D) := ⟨_, rfl⟩
  have n2 : Now st I (SrcA q.s ⟨g.tape, g.used⟩ * (cellA q.o (orK q g.d g.z g.size g.shown c) * (PsA q.m ps * (capA c * K)))) st := n1.perm (by rw [hK]; ac_rfl)
  refine w_oram_Oram_access ⟨_, ldv1 n1.cells rfl, _, ldv1 n1.cells rfl, _, ldv1 n1.cells rfl, ?_⟩
  refine Used_spec.ret n2 ?_
  intro s8 n8
  have n8' := n8.perm (B := cellA q.o (orK q g.d g.z g.size g.shown c) * (SrcA q.s ⟨g.tape, g.used⟩ * (PsA q.m ps * (capA c * K)))) (by ac_rfl)
  refine ⟨_, rfl, ldv1 n8'.cells rfl, ldv1 n8'.cells rfl, ?_⟩
  refine (Next_spec gd (sok _ (by omega))).ret n8 ?_
  intro s11 n11
  have hl1 : (Src.mk g.tape g.used).draw g.d < 2 ^ g.d := Nat.mod_lt _ (Nat.two_pow_pos _)
  generalize (Src.mk g.tape g.used).draw g.d = leaf1 at hl1 ⊢
  refine ⟨_, rfl, ?_⟩
  intro s13 h13
  have n13 := n11.newC [.int .i64 0, .int .u64 0]
  rw [← h13] at n13
  refine ⟨rfl, rfl, _, n13.cells, by decide, ?_⟩
  rw [repl_two']
  intro s15 h15
  have n15 := n13.set (posC leaf1 g.used)
  rw [show s13.setC s11.next (posC leaf1 g.used) = s15 from h15.symm] at n15
  have n15' := n15.perm (B := cellA q.o (orK q g.d g.z g.size g.shown c) * (SrcA q.s ⟨g.tape, g.used + 1⟩ * (cellA s11.next (posC leaf1 g.used) * (PsA q.m ps * (capA c * K))))) (by ac_rfl)
  refine ⟨_, ldv1 n15'.cells rfl, _, ldv1 n15'.cells rfl, _, ldv1 n15'.cells rfl, ?_⟩
  refine Used_spec.ret (n15.perm (B := SrcA q.s ⟨g.tape, g.used + 1⟩ * (cellA q.o (orK q g.d g.z g.size g.shown c) * (cellA s11.next (posC leaf1 g.used) * (PsA q.m ps * (capA c * K))))) (by ac_rfl)) ?_
  intro s20 n20
  have n20' := n20.perm (B := cellA q.o (orK q g.d g.z g.size g.shown c) * (SrcA q.s ⟨g.tape, g.used + 1⟩ * (cellA s11.next (posC leaf1 g.used) * (PsA q.m ps * (capA c * K))))) (by ac_rfl)
  refine ⟨_, rfl, ldv1 n20'.cells rfl, ldv1 n20'.cells rfl, ?_⟩
  refine (Next_spec gd (sok _ (by omega))).ret n20 ?_
  intro s23 n23
  have hl2 : (Src.mk g.tape (g.used + 1)).draw g.d < 2 ^ g.d := Nat.mod_lt _ (Nat.two_pow_pos _)
  generalize (Src.mk g.tape (g.used + 1)).draw g.d = leaf2 at hl2 ⊢
  refine ⟨_, rfl, ?_⟩
  intro s25 h25
  have n25 := n23.newC [.int .i64 0, .int .u64 0]
  rw [← h25] at n25
  refine ⟨rfl, rfl, _, n25.cells, by decide, ?_⟩
  rw [repl_two']
  intro s27 h27
  have n27 := n25.set (posC leaf2 (g.used + 1))
  rw [show s25.setC s23.next (posC leaf2 (g.used + 1)) = s27 from h27.symm] at n27
  have n27' := n27.perm (B := cellA q.o (orK q g.d g.z g.size g.shown c) * (PsA q.m ps * (cellA s23.next (posC leaf2 (g.used + 1)) * (cellA s11.next (posC leaf1 g.used) * (SrcA q.s ⟨g.tape, g.used + 2⟩ * (capA c * K)))))) (by ac_rfl)
  refine ⟨_, ldv1 n27'.cells rfl, ?_⟩
  refine (PsGet_spec id hos.full.ok).ret (n27.perm (B := PsA q.m ps * (cellA q.o (orK q g.d g.z g.size g.shown c) * (cellA s23.next (posC leaf2 (g.used + 1)) * (cellA s11.next (posC leaf1 g.used) * (SrcA q.s ⟨g.tape, g.used + 2⟩ * (capA c * K)))))) (by ac_rfl)) ?_
  intro s30 n30
  refine ⟨_, _, _, rfl, ?_⟩
  intro s34 h34
  have n34 := n30.newC [.int .i64 0, .int .u64 0]
  rw [← h34] at n34
  refine ⟨rfl, rfl, _, n34.cells, by decide, ?_⟩
  rw [repl_two']
  intro s36 h36
  have n36 := n34.set (posC ((psGet ps id).getD (0, 0)).1 ((psGet ps id).getD (0, 0)).2)
  rw [show s34.setC s30.next (posC ((psGet ps id).getD (0, 0)).1 ((psGet ps id).getD (0, 0)).2) = s36 from h36.symm] at n36
  intro K41 h41
  have main : ∀ (s42 : St) (leaf sh : Nat), leaf < 2 ^ g.d → sh = (match psGet ps id with | some p => p.2 | none => g.used) → (∀ p, psGet ps id = some p → p.1 = leaf) →
      Now st I (cellA s30.next (posC leaf sh) * (PsA q.m ps * (cellA q.o (orK q g.d g.z g.size g.shown c) * (cellA s23.next (posC leaf2 (g.used + 1)) * (cellA s11.next (posC leaf1 g.used) * (SrcA q.s ⟨g.tape, g.used + 2⟩ * (capA c * K))))))) s42 → K41 s42 := by
    intro s42 leaf sh hleaf hsh hpl n42
    refine h41 _ ?_
    have m42 := n42.perm (B := cellA q.o (orK q g.d g.z g.size g.shown c) * (cellA s30.next (posC leaf sh) * (PsA q.m ps * (cellA s23.next (posC leaf2 (g.used + 1)) * (cellA s11.next (posC leaf1 g.used) * (SrcA q.s ⟨g.tape, g.used + 2⟩ * (capA c * K))))))) (by ac_rfl)
    have l42 := n42.perm (B := capA c * (cellA q.o (orK q g.d g.z g.size g.shown c) * (cellA s30.next (posC leaf sh) * (PsA q.m ps * (cellA s23.next (posC leaf2 (g.used + 1)) * (cellA s11.next (posC leaf1 g.used) * (SrcA q.s ⟨g.tape, g.used + 2⟩ * K))))))) (by ac_rfl)
    have hul : (U64s g.shown).length = g.shown.length := by simp [U64s]
    refine ⟨_, _, ldv1 m42.cells rfl, _, ldv1 n42.cells rfl, ⟨l42.can, by rw [hul]; omega⟩, ?_⟩
    intro c45 s46 ha
    have n46 := (l42.app ha).perm (B := cellA q.o (orK q g.d g.z g.size g.shown c) * (cellA s30.next (posC leaf sh) * (PsA q.m ps * (cellA s23.next (posC leaf2 (g.used + 1)) * (cellA s11.next (posC leaf1 g.used) * (SrcA q.s ⟨g.tape, g.used + 2⟩ * (capA c45 * K))))))) (by ac_rfl)
    refine ⟨_, n46.cells, by simp [orK], ?_⟩
    intro s48 h48
    have n48 := n46.set (orK q g.d g.z g.size (g.shown ++ [sh]) c45)
    have eset : (orK q g.d g.z g.size g.shown c).set 7 (.lst 1 (U64s g.shown ++ [.int .u64 sh]) c45) = orK q g.d g.z g.size (g.shown ++ [sh]) c45 := by
      unfold orK U64s; rw [List.map_append]; rfl
    rw [eset] at h48
    rw [← h48] at n48
    have m48 := n48.perm (B := cellA s30.next (posC leaf sh) * (cellA q.o (orK q g.d g.z g.size (g.shown ++ [sh]) c45) * (PsA q.m ps * (cellA s23.next (posC leaf2 (g.used + 1)) * (cellA s11.next (posC leaf1 g.used) * (SrcA q.s ⟨g.tape, g.used + 2⟩ * (capA c45 * K))))))) (by ac_rfl)
    refine ⟨_, ldv1 m48.cells rfl, ?_⟩
    have n49 : Now st I (OrA q ⟨g.d, g.z, g.size, bk, ⟨g.tape, g.used + 2⟩, ps, ⟨g.ids, g.size, sl⟩, g.shown ++ [sh]⟩ * (D * (cellA s30.next (posC leaf sh) * (cellA s23.next (posC leaf2 (g.used + 1)) * cellA s11.next (posC leaf1 g.used))))) s48 :=
      orClose (c := c45) (m48.perm (by rw [hK]; show _ = cellA q.o (orK q g.d g.z g.size (g.shown ++ [sh]) c45) * _; ac_rfl))
    have so0 : StaOk ⟨g.ids, g.size, sl⟩ := staOk_of hos hlong gids gsz
    have hall : ∀ e ∈ (onL g.d leaf).flatMap B, (psGet ps e.id).isSome = true := fun e he => by
      obtain ⟨k, hk, hek⟩ := List.mem_flatMap.1 he
      obtain ⟨j, hj, rfl⟩ := List.mem_map.1 hk
      rw [List.mem_range] at hj
      obtain ⟨_, dr, hg⟩ := hos.cell e (List.mem_append_right _ (mem_allB.2 ⟨_, atL_lt hleaf (show j ≤ g.d by omega), hek⟩))
      rw [hg]; rfl
    refine (carry_spec (x := ⟨g.d, g.z, g.size, bk, ⟨g.tape, g.used + 2⟩, ps, ⟨g.ids, g.size, sl⟩, g.shown ++ [sh]⟩) gd hleaf gz hbk (by omega) hos.full.ok so0 rfl hall).call n49 ?_
    intro r50 s51 n51a
    obtain ⟨bk1, n51b⟩ := n51a.ex
    obtain ⟨⟨rfl, hbk1, htr1⟩, n51⟩ := n51b.pand
    obtain ⟨k1, k2⟩ := carry_law hos hleaf
    have hshort := k1.short
    have hputs : staPuts ⟨g.ids, g.size, sl⟩ ((onL g.d leaf).flatMap B) = ⟨g.ids, g.size, sl ++ (onL g.d leaf).flatMap B⟩ := by
      refine puts_new (fun e he => ?_) k1.uid.left ?_
      · exact (k1.cell e (List.mem_append_left _ (List.mem_append_right _ he))).1
      · unfold allC at hshort
        simp only [List.length_append] at hshort ⊢
        omega
    dsimp only at n51 hbk1 htr1
    rw [hputs] at n51
    have mid1 : Mid g g.dat id ps ⟨g.ids, g.size, sl ++ (onL g.d leaf).flatMap B⟩ (offB g.d leaf B (g.d + 1)) :=
      ⟨rfl, rfl, k1, carry_near hos hpl, hlong, fun i => by dsimp only; rw [k2]; exact hdat i⟩
    refine ⟨rfl, hcall, ?_⟩
    refine (hdo ⟨g.d, g.z, g.size, bk1, ⟨g.tape, g.used + 2⟩, ps, ⟨g.ids, g.size, sl ++ (onL g.d leaf).flatMap B⟩, g.shown ++ [sh]⟩ _ rfl mid1).call (n51.perm (B := (OrA q ⟨g.d, g.z, g.size, bk1, ⟨g.tape, g.used + 2⟩, ps, ⟨g.ids, g.size, sl ++ (onL g.d leaf).flatMap B⟩, g.shown ++ [sh]⟩ * D) * (cellA s30.next (posC leaf sh) * (cellA s23.next (posC leaf2 (g.used + 1)) * cellA s11.next (posC leaf1 g.used)))) (by ac_rfl)) ?_
    intro r52 s53 n53a
    obtain ⟨⟨ps2, sm2, ss2, sl2⟩, n53b⟩ := n53a.ex
    obtain ⟨⟨rfl, mid2, hsame⟩, n53⟩ := n53b.pand
    obtain ⟨hm2, hz2, hos2, hnear2, hlong2, hdat2⟩ := mid2
    dsimp only at hm2 hz2 hos2 hnear2 hlong2 hdat2 hsame n53
    subst hm2 hz2
    refine ⟨_, rfl, ?_⟩
    intro K81 h81
    have fin : ∀ (s82 : St) (ps3 : Ps) (l3 : List Cel), OsOk g.d g.size ⟨ps3, l3, offB g.d leaf B (g.d + 1)⟩ → (∀ i, (getO g.d ⟨ps3, l3, offB g.d leaf B (g.d + 1)⟩ i).map (·.data) = dat' i) → ps3.length = g.ids →
        DrOk ps3 (g.shown ++ [sh]) (g.used + 2) → (∀ i, (psGet ps3 i).map (·.2) = g.accP dat' id i) →
        Now st I (OrA q ⟨g.d, g.z, g.size, bk1, ⟨g.tape, g.used + 2⟩, ps3, ⟨g.ids, g.size, l3⟩, g.shown ++ [sh]⟩ * (D' * (cellA s30.next (posC leaf sh) * (cellA s23.next (posC leaf2 (g.used + 1)) * cellA s11.next (posC leaf1 g.used))))) s82 → K81 s82 := by
      intro s82 ps3 l3 hos3 hdat3 hlong3 hdr3 hpd3 n82
      refine h81 _ ?_
      have m82 := n82.perm (B := cellA s30.next (posC leaf sh) * (OrA q ⟨g.d, g.z, g.size, bk1, ⟨g.tape, g.used + 2⟩, ps3, ⟨g.ids, g.size, l3⟩, g.shown ++ [sh]⟩ * (D' * (cellA s23.next (posC leaf2 (g.used + 1)) * cellA s11.next (posC leaf1 g.used))))) (by ac_rfl)
      refine ⟨_, ldv1 m82.cells rfl, ?_⟩
      refine (settle_spec (x := ⟨g.d, g.z, g.size, bk1, ⟨g.tape, g.used + 2⟩, ps3, ⟨g.ids, g.size, l3⟩, g.shown ++ [sh]⟩) gd hleaf gz hbk1 (by omega) (staOk_of hos3 hlong3 gids gsz) rfl hos3.uid.left (fun e he => hos3.celLeaf (List.mem_append_left _ he))).call n82 ?_
      intro r84 s85 n85a
      obtain ⟨bk2, n85b⟩ := n85a.ex
      obtain ⟨⟨rfl, hbk2, htr2⟩, n85⟩ := n85b.pand
      dsimp only at hbk2 htr2 n85
      obtain ⟨j1, j2⟩ := settle_osok (z := g.z) (C := B) hos3 hleaf rfl
      refine ⟨rfl, ?_⟩
      have e5 : g.m + (g.d + 1) + (g.d + 1) = g.m + 2 * (g.d + 1) := by omega
      rw [e5] at hbk2
      have n86 := (n85.perm (B := cellA s30.next (posC leaf sh) * (cellA s23.next (posC leaf2 (g.used + 1)) * (cellA s11.next (posC leaf1 g.used) * (OrA q ⟨g.d, g.z, g.size, bk2, ⟨g.tape, g.used + 2⟩, ps3, ⟨g.ids, g.size, (settleL g.d leaf g.z (g.d + 1) (l3, B)).1⟩, g.shown ++ [sh]⟩ * D')))) (by ac_rfl)).drop.drop.drop
      have hsh2 : sh = (g.pd id).getD g.used := by rw [hsh, ← hpd id]; cases psGet ps id <;> rfl
      refine (Now.toEx leaf (Now.toPand ⟨rfl, hleaf⟩ (R := emp) ?_)).unemp
      refine Now.emp (Now.toEx (⟨g.d, g.z, g.size, bk2, ⟨g.tape, g.used + 2⟩, ps3, ⟨g.ids, g.size, (settleL g.d leaf g.z (g.d + 1) (l3, B)).1⟩, g.shown ++ [sh]⟩, (settleL g.d leaf g.z (g.d + 1) (l3, B)).2) (Now.toPand ?_ n86))
      refine ⟨rfl, rfl, rfl, rfl, rfl, rfl, by rw [hsh2]; rfl, hbk2, ?_, j1, hlong3, by rw [hsh2] at hdr3; exact hdr3, fun i => (congrArg (Option.map Cel.data) (j2 i)).trans (hdat3 i), hpd3⟩
      show bk2.tr = g.tr ++ _
      rw [htr2, htr1, htr, List.append_assoc]
    obtain ⟨c2, n54⟩ := orOpen (n53.perm (B := OrA q ⟨g.d, g.z, g.size, bk1, ⟨g.tape, g.used + 2⟩, ps2, ⟨g.ids, g.size, sl2⟩, g.shown ++ [sh]⟩ * (D' * (cellA s30.next (posC leaf sh) * (cellA s23.next (posC leaf2 (g.used + 1)) * cellA s11.next (posC leaf1 g.used))))) (by ac_rfl))
    have n54 : Now st I (cellA q.o (orK q g.d g.z g.size (g.shown ++ [sh]) c2) * (BkA q.b q.p q.dv bk1 * (SrcA q.s ⟨g.tape, g.used + 2⟩ * (PsA q.m ps2 * (StaA q.t ⟨g.ids, g.size, sl2⟩ * (capA c2 * (D' * (cellA s30.next (posC leaf sh) * (cellA s23.next (posC leaf2 (g.used + 1)) * cellA s11.next (posC leaf1 g.used)))))))))) s53 := n54
    obtain ⟨M, hM⟩ : ∃ M, M = BkA q.b q.p q.dv bk1 * (SrcA q.s ⟨g.tape, g.used + 2⟩ * (capA c2 * (D' * (cellA s30.next (posC leaf sh) * cellA s11.next (posC leaf1 g.used))))) := ⟨_, rfl⟩
    refine ⟨_, ldv1 n54.cells rfl, ?_⟩
    refine (StTake_spec id).retEx (n54.perm (B := StaA q.t ⟨g.ids, g.size, sl2⟩ * (cellA q.o (orK q g.d g.z g.size (g.shown ++ [sh]) c2) * (PsA q.m ps2 * (cellA s23.next (posC leaf2 (g.used + 1)) * M)))) (by rw [hM]; ac_rfl)) ?_
    intro c60 s57 n57
    dsimp only at n57
    refine ⟨_, _, _, _, _, rfl, ?_⟩
    intro s62 h62
    have n62 := n57.newC [.int .i64 0, .int .i64 0, .lst 1 [] .nil]
    rw [← h62] at n62
    refine ⟨rfl, rfl, _, n62.cells, by decide, ?_⟩
    rw [repl_three]
    intro s64 h64
    have n64 := n62.set ((celOr sl2 id).cs c60)
    rw [show s62.setC s57.next ((celOr sl2 id).cs c60) = s64 from h64.symm] at n64
    cases hlk : look sl2 id with
    | none =>
      refine ⟨fun h => (by cases h), fun _ => ?_⟩
      have hgn : getO g.d ⟨ps2, sl2, offB g.d leaf B (g.d + 1)⟩ id = none := by rw [← near_look hnear2]; exact hlk
      have hpn : psGet ps2 id = none := by
        cases e : psGet ps2 id with
        | none => rfl
        | some p =>
          obtain ⟨e1, he1, he2⟩ := hos2.there id p e
          exact absurd he2 (look_none hgn e1 he1)
      refine fin s64 ps2 sl2 hos2 hdat2 hlong2 (draw_law hdr hsh hsame fun p hp => by rw [hpn] at hp; cases hp) (fun i => ?_) ?_
      · unfold Og.accP
        by_cases hi : i = id
        · rw [if_pos hi, hi, hpn, ← hdat2 id, hgn]; rfl
        · rw [if_neg hi, hsame i hi]; exact hpd i
      · rw [delC_none hlk] at n64
        refine orClose (c := c2) ((n64.drop).perm ?_)
        rw [hM]
        show _ = cellA q.o (orK q g.d g.z g.size (g.shown ++ [sh]) c2) * _
        ac_rfl
    | some c0 =>
      refine ⟨fun _ => ?_, fun h => (by cases h)⟩
      have hc0 : celOr sl2 id = c0 := by rw [celOr, hlk]; rfl
      rw [hc0] at n64
      obtain ⟨hmem0, hid0⟩ := look_some hlk
      obtain ⟨hcel0, dr0, hg0⟩ := hos2.cell c0 (List.mem_append_left _ hmem0)
      have hhas : psHas ps2 id = true := by rw [← hid0]; exact psHas_get hg0
      have m64 := n64.perm (B := cellA s23.next (posC leaf2 (g.used + 1)) * (cellA s57.next (c0.cs c60) * (StaA q.t ⟨g.ids, g.size, delC sl2 id⟩ * (cellA q.o (orK q g.d g.z g.size (g.shown ++ [sh]) c2) * (PsA q.m ps2 * M))))) (by ac_rfl)
      refine ⟨_, ldv1 m64.cells rfl, _, n64.cells, by simp [Cel.cs], ?_⟩
      intro s67 h67
      have n67 := m64.perm (B := cellA s57.next (c0.cs c60) * (cellA s23.next (posC leaf2 (g.used + 1)) * (StaA q.t ⟨g.ids, g.size, delC sl2 id⟩ * (cellA q.o (orK q g.d g.z g.size (g.shown ++ [sh]) c2) * (PsA q.m ps2 * M))))) (by ac_rfl) |>.set ((Cel.mk c0.id leaf2 c0.data).cs c60)
      rw [show s64.setC s57.next ((Cel.mk c0.id leaf2 c0.data).cs c60) = s67 from h67.symm] at n67
      have m67 := n67.perm (B := cellA q.o (orK q g.d g.z g.size (g.shown ++ [sh]) c2) * (cellA s57.next ((Cel.mk c0.id leaf2 c0.data).cs c60) * (cellA s23.next (posC leaf2 (g.used + 1)) * (StaA q.t ⟨g.ids, g.size, delC sl2 id⟩ * (PsA q.m ps2 * M))))) (by ac_rfl)
      have l67 := n67.perm (B := cellA s23.next (posC leaf2 (g.used + 1)) * (cellA q.o (orK q g.d g.z g.size (g.shown ++ [sh]) c2) * (cellA s57.next ((Cel.mk c0.id leaf2 c0.data).cs c60) * (StaA q.t ⟨g.ids, g.size, delC sl2 id⟩ * (PsA q.m ps2 * M))))) (by ac_rfl)
      refine ⟨_, ldv1 m67.cells rfl, _, _, ldvg l67.cells rfl, ?_⟩
      refine (PsSet_spec id leaf2 (g.used + 1) (by omega) (by omega)).ret (n67.perm (B := PsA q.m ps2 * (cellA q.o (orK q g.d g.z g.size (g.shown ++ [sh]) c2) * (cellA s57.next ((Cel.mk c0.id leaf2 c0.data).cs c60) * (StaA q.t ⟨g.ids, g.size, delC sl2 id⟩ * (cellA s23.next (posC leaf2 (g.used + 1)) * M))))) (by ac_rfl)) ?_
      intro s72 n72
      have m72 := n72.perm (B := cellA q.o (orK q g.d g.z g.size (g.shown ++ [sh]) c2) * (PsA q.m (psSet ps2 id leaf2 (g.used + 1)) * (cellA s57.next ((Cel.mk c0.id leaf2 c0.data).cs c60) * (StaA q.t ⟨g.ids, g.size, delC sl2 id⟩ * (cellA s23.next (posC leaf2 (g.used + 1)) * M))))) (by ac_rfl)
      have l72 := n72.perm (B := cellA s57.next ((Cel.mk c0.id leaf2 c0.data).cs c60) * (cellA q.o (orK q g.d g.z g.size (g.shown ++ [sh]) c2) * (PsA q.m (psSet ps2 id leaf2 (g.used + 1)) * (StaA q.t ⟨g.ids, g.size, delC sl2 id⟩ * (cellA s23.next (posC leaf2 (g.used + 1)) * M))))) (by ac_rfl)
      refine ⟨_, rfl, _, ldv1 m72.cells rfl, _, _, _, _, ldvg l72.cells rfl, ?_⟩
      have so2 : StaOk ⟨g.ids, g.size, sl2⟩ := staOk_of hos2 hlong2 gids gsz
      have hdp := delC_perm hlk
      have hdl : (delC sl2 id).length + 1 = sl2.length := by rw [← hdp.length_eq, List.length_cons]
      have so3 : StaOk ⟨g.ids, g.size, delC sl2 id⟩ := ⟨so2.most, so2.size, fun e he => so2.ok e (delC_sub he), by have := so2.long; dsimp only at this ⊢; omega⟩
      refine (StPut_spec (Cel.mk c0.id leaf2 c0.data) c60 so3).ret (n72.perm (B := StaA q.t ⟨g.ids, g.size, delC sl2 id⟩ * (cellA q.o (orK q g.d g.z g.size (g.shown ++ [sh]) c2) * (PsA q.m (psSet ps2 id leaf2 (g.used + 1)) * (cellA s57.next ((Cel.mk c0.id leaf2 c0.data).cs c60) * (cellA s23.next (posC leaf2 (g.used + 1)) * M))))) (by ac_rfl)) ?_
      intro s79 n79
      refine ⟨_, rfl, ?_⟩
      have hok3 : CelOk (Cel.mk c0.id leaf2 c0.data) g.size := ⟨hcel0.id1, hcel0.id, by show leaf2 ≤ _; omega, hcel0.long⟩
      have hnew : ∀ y ∈ delC sl2 id, (y.id : Int) ≠ c0.id := (Uid.tail (hos2.uid.left.perm hdp.symm)).2
      have hlong4 := so2.long
      rw [put_new (c := Cel.mk c0.id leaf2 c0.data) hok3 hnew (by dsimp only at hlong4 ⊢; omega)] at n79
      dsimp only at n79
      have hrep := replace_law (c := Cel.mk c0.id leaf2 c0.data) hos2 (by show Near _ _ (c0.id : Int); rw [hid0]; exact hnear2) (by show psHas ps2 (c0.id : Int) = true; rw [hid0]; exact hhas) hok3 hl2 gd (dr := g.used + 1) (by omega) (l' := delC sl2 id ++ [Cel.mk c0.id leaf2 c0.data])
        (by dsimp only; rw [hid0]; exact List.perm_append_comm)
      dsimp only at hrep
      rw [hid0] at hrep
      obtain ⟨r1, r2, r3⟩ := hrep
      refine fin s79 (psSet ps2 id leaf2 (g.used + 1)) (delC sl2 id ++ [Cel.mk c0.id leaf2 c0.data]) r1 (fun i => ?_) (by rw [psSet_length]; exact hlong2) (draw_law hdr hsh (fun i hi => by rw [psGet_set hhas, if_neg hi]; exact hsame i hi) fun p hp => by rw [psGet_set hhas, if_pos rfl] at hp; cases hp; rfl) (fun i => ?_) ?_
      · rw [r3, ← hdat2 i]
        split
        · rename_i hi
          rw [hi, ← near_look hnear2]
          dsimp only
          rw [hlk]; rfl
        · rfl
      · unfold Og.accP
        rw [psGet_set hhas]
        by_cases hi : i = id
        · rw [if_pos hi, if_pos hi, ← hdat2 id, ← near_look hnear2]
          dsimp only
          rw [hlk]; rfl
        · rw [if_neg hi, if_neg hi, hsame i hi]; exact hpd i
      · refine orClose (c := c2) ((n79.perm (B := cellA s57.next ((Cel.mk c0.id leaf2 c0.data).cs c60) * (StaA q.t ⟨g.ids, g.size, delC sl2 id ++ [Cel.mk c0.id leaf2 c0.data]⟩ * (cellA q.o (orK q g.d g.z g.size (g.shown ++ [sh]) c2) * (PsA q.m (psSet ps2 id leaf2 (g.used + 1)) * (cellA s23.next (posC leaf2 (g.used + 1)) * M))))) (by ac_rfl)).drop.perm ?_)
        rw [hM]
        show _ = cellA q.o (orK q g.d g.z g.size (g.shown ++ [sh]) c2) * _
        ac_rfl
  cases hpg : psGet ps id with
  | none =>
    rw [hpg] at n36 h36 main
    refine ⟨fun _ => ?_, fun h => (by cases h)⟩
    have m36 := n36.perm (B := cellA s11.next (posC leaf1 g.used) * (cellA s30.next (posC (((none : Option (Nat × Nat))).getD (0, 0)).1 (((none : Option (Nat × Nat))).getD (0, 0)).2) * (PsA q.m ps * (cellA q.o (orK q g.d g.z g.size g.shown c) * (cellA s23.next (posC leaf2 (g.used + 1)) * (SrcA q.s ⟨g.tape, g.used + 2⟩ * (capA c * K))))))) (by ac_rfl)
    refine ⟨_, _, ldvg m36.cells rfl, rfl, rfl, _, n36.cells, by decide, ?_⟩
    intro s40 h40
    have n40 := n36.set (posC leaf1 g.used)
    rw [show s36.setC s30.next (posC leaf1 g.used) = s40 from h40.symm] at n40
    exact main s40 leaf1 g.used hl1 rfl (fun p hp => by cases hp) n40
  | some p =>
    rw [hpg] at n36 h36 main
    refine ⟨fun h => (by cases h), fun _ => ?_⟩
    exact main s36 p.1 p.2 (hos.leaf id p hpg) rfl (fun q hq => by cases hq; rfl) n36
end Go.Proofs.YtffenelcgjdbiaaGreatDoor
namespace Go.Proofs.YtffenelcgjdbiaaGreatDoor
open Go Go.Sim
set_option maxRecDepth 100000
def Og.may (g : Og) (id : Int) (data : List UInt8) : Bool := decide (1 ≤ id ∧ id ≤ g.ids ∧ data.length = g.size)
def Og.putD (g : Og) (id : Int) (data : List UInt8) : Int → Option (List UInt8) := if g.may id data then fun i => if i = id then some data else g.dat i else g.dat
def Og.delD (g : Og) (id : Int) : Int → Option (List UInt8) := fun i => if i = id then none else g.dat i
theorem mid_look {g : Og} {dat : Int → Option (List UInt8)} {id : Int} {ps : Ps} {sta : Sta} {B : Nat → List Cel} (h : Mid g dat id ps sta B) : (look sta.l id).map (·.data) = dat id := by
  have := near_look h.near
  dsimp only at this
  rw [this]; exact h.dat id
theorem mid_sta {g : Og} {dat : Int → Option (List UInt8)} {id : Int} {ps : Ps} {sta : Sta} {B : Nat → List Cel} (h : Mid g dat id ps sta B) (gok : GOk g) : StaOk sta := by
  have := staOk_of h.os h.long gok.ids gok.size
  rw [← h.most, ← h.ssz] at this
  exact this
theorem read1_spec {q : Oq} {g : Og} (gok : GOk g) (id : Int) {p1 p2 p3 : Nat} (x : Om) (B : Nat → List Cel) (mid : Mid g g.dat id x.ps x.sta B) :
    Does Tryz.prog F_oram_Oram_Read_1 [.ptr p1 0, .ptr p2 0, .ptr p3 0] (OrA q x * (cellA p1 [.ptr q.o 0] * (cellA p2 [.int .i64 id] * cellA p3 [.lst 1 [] .nil])))
      fun r => ex fun w : Ps × Sta => pand (r = .ret (.bool (g.dat id).isSome) ∧ Mid g g.dat id w.1 w.2 B ∧ ∀ i, i ≠ id → psGet w.1 i = psGet x.ps i)
        (OrA q { x with ps := w.1, sta := w.2 } * ex fun c => cellA p3 [.lst 1 (By ((g.dat id).getD [])) c]) := by
  intro st I h
  have n0 := (Now.init h).emp
  obtain ⟨c, n1⟩ := orOpen (n0.perm (B := OrA q x * (cellA p1 [.ptr q.o 0] * (cellA p2 [.int .i64 id] * (cellA p3 [.lst 1 [] .nil] * emp)))) (by ac_rfl))
  obtain ⟨K, hK⟩ : ∃ K, K = BkA q.b q.p q.dv x.bk * (SrcA q.s x.src * (PsA q.m x.ps * (capA c * emp))) := ⟨_, rfl⟩
  have a1 := n1.perm (B := cellA p1 [.ptr q.o 0] * (cellA q.o (orC q x c) * (StaA q.t x.sta * (cellA p2 [.int .i64 id] * (cellA p3 [.lst 1 [] .nil] * K))))) (by rw [hK]; ac_rfl)
  have a2 := a1.perm (B := cellA p2 [.int .i64 id] * (cellA p1 [.ptr q.o 0] * (cellA q.o (orC q x c) * (StaA q.t x.sta * (cellA p3 [.lst 1 [] .nil] * K))))) (by ac_rfl)
  refine w_oram_Oram_Read_1 ⟨_, ldv1 a1.cells rfl, _, ldv1 n1.cells rfl, _, ldv1 a2.cells rfl, ?_⟩
  refine (StPeek_spec id (mid_sta mid gok)).retEx (a1.perm (B := StaA q.t x.sta * (cellA p1 [.ptr q.o 0] * (cellA q.o (orC q x c) * (cellA p2 [.int .i64 id] * (cellA p3 [.lst 1 [] .nil] * K))))) (by ac_rfl)) ?_
  intro c11 s8 n8
  refine ⟨_, _, _, _, _, rfl, ?_⟩
  intro s13 h13
  have n13 := n8.newC [.int .i64 0, .int .i64 0, .lst 1 [] .nil]
  rw [← h13] at n13
  refine ⟨rfl, rfl, _, n13.cells, by decide, ?_⟩
  rw [repl_three]
  intro s15 h15
  have n15 := n13.set ((celOr x.sta.l id).cs c11)
  rw [show s13.setC s8.next ((celOr x.sta.l id).cs c11) = s15 from h15.symm] at n15
  have m15 := n15.perm (B := cellA p3 [.lst 1 [] .nil] * (cellA s8.next ((celOr x.sta.l id).cs c11) * (StaA q.t x.sta * (cellA p1 [.ptr q.o 0] * (cellA q.o (orC q x c) * (cellA p2 [.int .i64 id] * K)))))) (by ac_rfl)
  refine ⟨_, _, ldv1 n15.cells rfl, _, m15.cells, by decide, ?_⟩
  intro s18 h18
  have n18 := m15.set [.lst 1 (By (celOr x.sta.l id).data) c11]
  rw [show s15.setC p3 [V.lst 1 (By (celOr x.sta.l id).data) c11] = s18 from h18.symm] at n18
  have hl := mid_look mid
  have e1 : (look x.sta.l id).isSome = (g.dat id).isSome := by rw [← hl, Option.isSome_map]
  have e2 : (celOr x.sta.l id).data = (g.dat id).getD [] := by
    rw [← hl, celOr]; cases look x.sta.l id <;> rfl
  rw [e2] at n18
  refine (Now.toEx (x.ps, x.sta) (Now.toPand ⟨by rw [e1], mid, fun _ _ => rfl⟩ (R := emp) ?_)).unemp
  have n19 : Now st I ((ex fun c => cellA p3 [.lst 1 (By ((g.dat id).getD [])) c]) * (cellA q.o (orC q x c) * (StaA q.t x.sta * K))) s18 := by
    refine Now.toEx c11 ?_
    refine ((n18.perm (B := cellA s8.next ((celOr x.sta.l id).cs c11) * (cellA p1 [.ptr q.o 0] * (cellA p2 [.int .i64 id] * (cellA p3 [.lst 1 (By ((g.dat id).getD [])) c11] * (cellA q.o (orC q x c) * (StaA q.t x.sta * K)))))) (by ac_rfl)).drop.drop.drop)
  have n20 := orClose (q := q) (x := x) (c := c) (R := (ex fun c => cellA p3 [.lst 1 (By ((g.dat id).getD [])) c]) * emp) (n19.perm (by rw [hK]; ac_rfl))
  exact n20.perm (by ac_rfl)
theorem drop1_spec {q : Oq} {g : Og} (gok : GOk g) (id : Int) {p1 p2 : Nat} (x : Om) (B : Nat → List Cel) (mid : Mid g g.dat id x.ps x.sta B) :
    Does Tryz.prog F_oram_Oram_Drop_1 [.ptr p1 0, .ptr p2 0] (OrA q x * (cellA p1 [.ptr q.o 0] * cellA p2 [.int .i64 id]))
      fun r => ex fun w : Ps × Sta => pand (r = .ret (.bool (g.dat id).isSome) ∧ Mid g (g.delD id) id w.1 w.2 B ∧ ∀ i, i ≠ id → psGet w.1 i = psGet x.ps i)
        (OrA q { x with ps := w.1, sta := w.2 } * emp) := by
  intro st I h
  have n0 := (Now.init h).emp
  obtain ⟨c, n1⟩ := orOpen (n0.perm (B := OrA q x * (cellA p1 [.ptr q.o 0] * (cellA p2 [.int .i64 id] * emp))) (by ac_rfl))
  obtain ⟨K, hK⟩ : ∃ K, K = BkA q.b q.p q.dv x.bk * (SrcA q.s x.src * (capA c * emp)) := ⟨_, rfl⟩
  have a1 := n1.perm (B := cellA p1 [.ptr q.o 0] * (cellA q.o (orC q x c) * (StaA q.t x.sta * (PsA q.m x.ps * (cellA p2 [.int .i64 id] * K))))) (by rw [hK]; ac_rfl)
  have a2 := a1.perm (B := cellA p2 [.int .i64 id] * (cellA p1 [.ptr q.o 0] * (cellA q.o (orC q x c) * (StaA q.t x.sta * (PsA q.m x.ps * K))))) (by ac_rfl)
  refine w_oram_Oram_Drop_1 ⟨_, ldv1 a1.cells rfl, _, ldv1 n1.cells rfl, _, ldv1 a2.cells rfl, ?_⟩
  refine (StTake_spec id).retEx (a1.perm (B := StaA q.t x.sta * (cellA p1 [.ptr q.o 0] * (cellA q.o (orC q x c) * (PsA q.m x.ps * (cellA p2 [.int .i64 id] * K))))) (by ac_rfl)) ?_
  intro c10 s7 n7
  refine ⟨_, _, _, _, _, rfl, ?_⟩
  intro s12 h12
  have n12 := n7.newC [.int .i64 0, .int .i64 0, .lst 1 [] .nil]
  rw [← h12] at n12
  refine ⟨rfl, rfl, _, n12.cells, by decide, ?_⟩
  rw [repl_three]
  intro s14 h14
  have n14 := n12.set ((celOr x.sta.l id).cs c10)
  rw [show s12.setC s7.next ((celOr x.sta.l id).cs c10) = s14 from h14.symm] at n14
  have n15 := n14.drop
  have b1 := n15.perm (B := cellA p1 [.ptr q.o 0] * (cellA q.o (orC q x c) * (StaA q.t ⟨x.sta.most, x.sta.size, delC x.sta.l id⟩ * (PsA q.m x.ps * (cellA p2 [.int .i64 id] * K))))) (by ac_rfl)
  have b2 := n15.perm (B := cellA p2 [.int .i64 id] * (cellA p1 [.ptr q.o 0] * (cellA q.o (orC q x c) * (StaA q.t ⟨x.sta.most, x.sta.size, delC x.sta.l id⟩ * (PsA q.m x.ps * K))))) (by ac_rfl)
  have b3 := n15.perm (B := cellA q.o (orC q x c) * (cellA p1 [.ptr q.o 0] * (StaA q.t ⟨x.sta.most, x.sta.size, delC x.sta.l id⟩ * (PsA q.m x.ps * (cellA p2 [.int .i64 id] * K))))) (by ac_rfl)
  refine ⟨_, ldv1 b1.cells rfl, _, ldv1 b3.cells rfl, _, ldv1 b2.cells rfl, ?_⟩
  have hps : x.ps.length ≤ 10000 := by rw [mid.long]; exact gok.ids
  refine (PsClear_spec id hps).ret (n15.perm (B := PsA q.m x.ps * (cellA p1 [.ptr q.o 0] * (cellA q.o (orC q x c) * (StaA q.t ⟨x.sta.most, x.sta.size, delC x.sta.l id⟩ * (cellA p2 [.int .i64 id] * K))))) (by ac_rfl)) ?_
  intro s19 n19
  have hl := mid_look mid
  have e1 : (look x.sta.l id).isSome = (g.dat id).isSome := by rw [← hl, Option.isSome_map]
  obtain ⟨r1, r2, r3⟩ := remove_law mid.os mid.near
  dsimp only at r1 r2 r3
  have hmid : Mid g (g.delD id) id (psClear x.ps id) ⟨x.sta.most, x.sta.size, delC x.sta.l id⟩ B := by
    refine ⟨mid.most, mid.ssz, r1, r2, by rw [psClear_length]; exact mid.long, fun i => ?_⟩
    dsimp only
    rw [r3]
    unfold Og.delD
    split
    · rfl
    · exact mid.dat i
  have hoth : ∀ i, i ≠ id → psGet (psClear x.ps id) i = psGet x.ps i := fun i hi => by rw [psGet_clear, if_neg hi]
  refine ⟨rfl, (Now.toEx (psClear x.ps id, ⟨x.sta.most, x.sta.size, delC x.sta.l id⟩) (Now.toPand ⟨by rw [e1], hmid, hoth⟩ (R := emp) ?_)).unemp⟩
  have n20 := (n19.perm (B := cellA p1 [.ptr q.o 0] * (cellA p2 [.int .i64 id] * (cellA q.o (orC q x c) * (PsA q.m (psClear x.ps id) * (StaA q.t ⟨x.sta.most, x.sta.size, delC x.sta.l id⟩ * K))))) (by ac_rfl)).drop.drop
  have n21 := orClose (q := q) (x := { x with ps := psClear x.ps id, sta := ⟨x.sta.most, x.sta.size, delC x.sta.l id⟩ }) (c := c) (R := emp) (n20.perm (by rw [hK]; show _ = cellA q.o (orC q x c) * _; ac_rfl))
  exact n21.emp
theorem write1_spec {q : Oq} {g : Og} (gok : GOk g) (id : Int) (data : List UInt8) {cd : Cap} {p1 p2 p3 : Nat} (x : Om) (B : Nat → List Cel) (hsz : x.size = g.size) (mid : Mid g g.dat id x.ps x.sta B) :
    Does Tryz.prog F_oram_Oram_Write_1 [.ptr p1 0, .ptr p2 0, .ptr p3 0] (OrA q x * (cellA p1 [.lst 1 (By data) cd] * (cellA p2 [.ptr q.o 0] * cellA p3 [.int .i64 id])))
      fun r => ex fun w : Ps × Sta => pand (r = .ret (.bool (g.may id data)) ∧ Mid g (g.putD id data) id w.1 w.2 B ∧ ∀ i, i ≠ id → psGet w.1 i = psGet x.ps i)
        (OrA q { x with ps := w.1, sta := w.2 } * emp) := by
  intro st I h
  have n0 := (Now.init h).emp
  obtain ⟨c, n1⟩ := orOpen (n0.perm (B := OrA q x * (cellA p1 [.lst 1 (By data) cd] * (cellA p2 [.ptr q.o 0] * (cellA p3 [.int .i64 id] * emp)))) (by ac_rfl))
  obtain ⟨K, hK⟩ : ∃ K, K = BkA q.b q.p q.dv x.bk * (SrcA q.s x.src * (capA c * emp)) := ⟨_, rfl⟩
  have a0 := n1.perm (B := cellA q.o (orC q x c) * (cellA p1 [.lst 1 (By data) cd] * (cellA p2 [.ptr q.o 0] * (cellA p3 [.int .i64 id] * (StaA q.t x.sta * (PsA q.m x.ps * K)))))) (by rw [hK]; ac_rfl)
  have a1 := a0.perm (B := cellA p1 [.lst 1 (By data) cd] * (cellA q.o (orC q x c) * (cellA p2 [.ptr q.o 0] * (cellA p3 [.int .i64 id] * (StaA q.t x.sta * (PsA q.m x.ps * K)))))) (by ac_rfl)
  have a2 := a0.perm (B := cellA p2 [.ptr q.o 0] * (cellA q.o (orC q x c) * (cellA p1 [.lst 1 (By data) cd] * (cellA p3 [.int .i64 id] * (StaA q.t x.sta * (PsA q.m x.ps * K)))))) (by ac_rfl)
  have a3 := a0.perm (B := cellA p3 [.int .i64 id] * (cellA q.o (orC q x c) * (cellA p1 [.lst 1 (By data) cd] * (cellA p2 [.ptr q.o 0] * (StaA q.t x.sta * (PsA q.m x.ps * K)))))) (by ac_rfl)
  have hps : x.ps.length = g.ids := mid.long
  have hids := gok.ids
  have gsz := gok.size
  have hhas : psHas x.ps id = decide (1 ≤ id ∧ id ≤ (g.ids : Int)) := by rw [psHas, hps]
  have no : ∀ s, g.may id data = false → Now st I (cellA q.o (orC q x c) * (cellA p1 [.lst 1 (By data) cd] * (cellA p2 [.ptr q.o 0] * (cellA p3 [.int .i64 id] * (StaA q.t x.sta * (PsA q.m x.ps * K)))))) s →
      Now st I (ex fun w : Ps × Sta => pand (Res.ret (.bool false) = .ret (.bool (g.may id data)) ∧ Mid g (g.putD id data) id w.1 w.2 B ∧ ∀ i, i ≠ id → psGet w.1 i = psGet x.ps i) (OrA q { x with ps := w.1, sta := w.2 } * emp)) s := by
    intro s hf n
    have hput : g.putD id data = g.dat := by unfold Og.putD; rw [hf]; rfl
    rw [hput]
    refine (Now.toEx (x.ps, x.sta) (Now.toPand ⟨by rw [hf], mid, fun _ _ => rfl⟩ (R := emp) ?_)).unemp
    have n20 := (n.perm (B := cellA p1 [.lst 1 (By data) cd] * (cellA p2 [.ptr q.o 0] * (cellA p3 [.int .i64 id] * (cellA q.o (orC q x c) * (StaA q.t x.sta * (PsA q.m x.ps * K)))))) (by ac_rfl)).drop.drop.drop
    exact (orClose (q := q) (x := x) (c := c) (R := emp) (n20.perm (by rw [hK]; ac_rfl))).emp
  refine w_oram_Oram_Write_1 ⟨_, _, ldv1 a1.cells rfl, _, ldv1 a2.cells rfl, _, ldv1 a0.cells rfl, ?_⟩
  intro K14 h14
  rw [By_length]
  by_cases hlen : data.length = g.size
  · rw [show (((data.length : Nat) : Int) != (x.size : Int)) = false by rw [hlen, hsz]; simp]
    refine ⟨fun _ => ⟨_, ldv1 a2.cells rfl, _, ldv1 a0.cells rfl, _, ldv1 a3.cells rfl, ?_⟩, fun h => (by cases h)⟩
    refine (PsSet_spec (l := x.ps) id 0 0 (by omega) (by decide)).ret (a0.perm (B := PsA q.m x.ps * (cellA q.o (orC q x c) * (cellA p1 [.lst 1 (By data) cd] * (cellA p2 [.ptr q.o 0] * (cellA p3 [.int .i64 id] * (StaA q.t x.sta * K)))))) (by ac_rfl)) ?_
    intro s11 n11
    refine ⟨_, rfl, ?_⟩
    refine h14 _ _ ?_
    cases hh : psHas x.ps id with
    | false =>
      refine ⟨fun _ => no s11 ?_ ?_, fun h => (by cases h)⟩
      · rw [hhas] at hh
        unfold Og.may
        rw [decide_eq_false_iff_not] at hh ⊢
        omega
      · rw [show psSet x.ps id 0 0 = x.ps by rw [psSet, if_neg (by rw [hh]; decide)]] at n11
        exact n11.perm (by ac_rfl)
    | true =>
      have hr : 1 ≤ id ∧ id ≤ (g.ids : Int) := by rw [hhas] at hh; simpa using hh
      have hmay : g.may id data = true := by unfold Og.may; rw [decide_eq_true_eq]; omega
      obtain ⟨k, rfl⟩ : ∃ k : Nat, id = k := ⟨id.toNat, by omega⟩
      refine ⟨fun h => (by cases h), fun _ => ?_⟩
      have b0 := n11.perm (B := cellA q.o (orC q x c) * (cellA p1 [.lst 1 (By data) cd] * (cellA p2 [.ptr q.o 0] * (cellA p3 [.int .i64 k] * (StaA q.t x.sta * (PsA q.m (psSet x.ps k 0 0) * K)))))) (by ac_rfl)
      have b1 := b0.perm (B := cellA p1 [.lst 1 (By data) cd] * (cellA q.o (orC q x c) * (cellA p2 [.ptr q.o 0] * (cellA p3 [.int .i64 k] * (StaA q.t x.sta * (PsA q.m (psSet x.ps k 0 0) * K)))))) (by ac_rfl)
      have b2 := b0.perm (B := cellA p2 [.ptr q.o 0] * (cellA q.o (orC q x c) * (cellA p1 [.lst 1 (By data) cd] * (cellA p3 [.int .i64 k] * (StaA q.t x.sta * (PsA q.m (psSet x.ps k 0 0) * K)))))) (by ac_rfl)
      have b3 := b0.perm (B := cellA p3 [.int .i64 k] * (cellA q.o (orC q x c) * (cellA p1 [.lst 1 (By data) cd] * (cellA p2 [.ptr q.o 0] * (StaA q.t x.sta * (PsA q.m (psSet x.ps k 0 0) * K)))))) (by ac_rfl)
      refine ⟨_, ldv1 b2.cells rfl, _, ldv1 b0.cells rfl, _, ldv1 b3.cells rfl, _, _, ldv1 b1.cells rfl, ?_⟩
      refine (Clone_spec (By data) cd (by rw [By_length]; omega) s11).mono ?_
      rintro _ s21 ⟨c22, rfl, o22⟩
      refine ⟨_, _, rfl, ldv1 (b2.le o22.le).cells rfl, ldv1 (b0.le o22.le).cells rfl, ldv1 (b3.le o22.le).cells rfl, ?_⟩
      have so := mid_sta mid gok
      refine (StPut_spec (Cel.mk k 0 data) c22 so).ret ((b0.le o22.le).perm (B := StaA q.t x.sta * (cellA q.o (orC q x c) * (cellA p1 [.lst 1 (By data) cd] * (cellA p2 [.ptr q.o 0] * (cellA p3 [.int .i64 k] * (PsA q.m (psSet x.ps k 0 0) * K)))))) (by ac_rfl)) ?_
      intro s24 n24
      have hok : CelOk (Cel.mk k 0 data) g.size := ⟨by show 1 ≤ k; omega, by show k ≤ _; omega, Nat.zero_le _, hlen⟩
      have hrep := replace_law (c := Cel.mk k 0 data) mid.os mid.near hh hok (Nat.two_pow_pos _) gok.d (dr := 0) (by decide) (l' := putC x.sta.l (Cel.mk k 0 data)) (putC_perm _ _)
      dsimp only at hrep
      obtain ⟨r1, r2, r3⟩ := hrep
      have hshort := r1.short
      unfold allC at hshort
      dsimp only at hshort
      rw [List.length_append, psSet_length, hps, putC_length] at hshort
      have hm : staMay x.sta (Cel.mk k 0 data) = true := by
        rw [staMay, celOk_iff.2 (by rw [mid.ssz]; exact hok), Bool.true_and, Bool.or_eq_true, decide_eq_true_eq, mid.most]
        cases hlk : (look x.sta.l (Cel.mk k 0 data).id).isSome with
        | true => exact .inl rfl
        | false => rw [hlk] at hshort; right; simp only [Bool.false_eq_true, if_false] at hshort; omega
      have hput : x.sta.put (Cel.mk k 0 data) = ⟨x.sta.most, x.sta.size, putC x.sta.l (Cel.mk k 0 data)⟩ := by rw [Sta.put, if_pos hm]
      rw [hput] at n24
      refine ⟨_, rfl, ?_⟩
      rw [hm]
      have hmid : Mid g (g.putD k data) k (psSet x.ps k 0 0) ⟨x.sta.most, x.sta.size, putC x.sta.l (Cel.mk k 0 data)⟩ B := by
        refine ⟨mid.most, mid.ssz, r1, r2, by rw [psSet_length]; exact hps, fun i => ?_⟩
        dsimp only
        rw [r3]
        unfold Og.putD
        rw [hmay, if_pos rfl]
        split
        · rfl
        · exact mid.dat i
      have hoth : ∀ i, i ≠ (k : Int) → psGet (psSet x.ps k 0 0) i = psGet x.ps i := fun i hi => by rw [psGet_set hh, if_neg hi]
      refine (Now.toEx (psSet x.ps k 0 0, ⟨x.sta.most, x.sta.size, putC x.sta.l (Cel.mk k 0 data)⟩) (Now.toPand ⟨by rw [hmay], hmid, hoth⟩ (R := emp) ?_)).unemp
      have n25 := (n24.perm (B := cellA p1 [.lst 1 (By data) cd] * (cellA p2 [.ptr q.o 0] * (cellA p3 [.int .i64 k] * (cellA q.o (orC q x c) * (PsA q.m (psSet x.ps k 0 0) * (StaA q.t ⟨x.sta.most, x.sta.size, putC x.sta.l (Cel.mk k 0 data)⟩ * K)))))) (by ac_rfl)).drop.drop.drop
      exact (orClose (q := q) (x := { x with ps := psSet x.ps k 0 0, sta := ⟨x.sta.most, x.sta.size, putC x.sta.l (Cel.mk k 0 data)⟩ }) (c := c) (R := emp) (n25.perm (by rw [hK]; show _ = cellA q.o (orC q x c) * _; ac_rfl))).emp
  · have hf : g.may id data = false := by unfold Og.may; rw [decide_eq_false_iff_not]; omega
    rw [show (((data.length : Nat) : Int) != (x.size : Int)) = true by rw [hsz]; simp; omega]
    exact ⟨fun h => (by cases h), fun _ => h14 _ _ ⟨fun _ => no st hf a0, fun h => (by cases h)⟩⟩
theorem OrRead_spec {q : Oq} {g : Og} (gok : GOk g) (id : Int) :
    Does Tryz.prog F_oram_Oram_Read [.ptr q.o 0, .int .i64 id] (OrS q g) fun r => ex fun w : Nat × Cap => pand (r = retO (g.dat id) w.2 ∧ w.1 < 2 ^ g.d) (OrS q (g.acc g.dat id w.1)) := by
  intro st I h
  have n0 := (Now.init h).emp
  refine w_oram_Oram_Read ?_
  intro s3 h3
  have n3 := n0.newC [.ptr q.o 0]
  rw [← h3] at n3
  intro s4 h4
  have n4 := n3.newC [.int .i64 id]
  rw [← h4] at n4
  intro s5 h5
  have n5 := n4.newC [.lst 1 [] .nil]
  rw [← h5] at n5
  have a1 := n5.perm (B := cellA st.next [.ptr q.o 0] * (cellA s3.next [.int .i64 id] * (cellA s4.next [.lst 1 [] .nil] * (OrS q g * emp)))) (by ac_rfl)
  have a2 := n5.perm (B := cellA s3.next [.int .i64 id] * (cellA st.next [.ptr q.o 0] * (cellA s4.next [.lst 1 [] .nil] * (OrS q g * emp)))) (by ac_rfl)
  refine ⟨_, ldv1 a1.cells rfl, _, ldv1 a2.cells rfl, ?_⟩
  refine (access_spec gok id (f3 := 35) (f3c := [.ptr st.next 0, .ptr s3.next 0, .ptr s4.next 0]) (D := cellA st.next [.ptr q.o 0] * (cellA s3.next [.int .i64 id] * cellA s4.next [.lst 1 [] .nil])) (by kernel_rfl)
    (fun x B _ mid => read1_spec gok id x B mid)).call (n5.perm (B := (OrS q g * (cellA st.next [.ptr q.o 0] * (cellA s3.next [.int .i64 id] * cellA s4.next [.lst 1 [] .nil]))) * emp) (by ac_rfl)) ?_
  intro r8 s9 n9a
  obtain ⟨w, n9b⟩ := n9a.ex
  obtain ⟨⟨rfl, hw⟩, n9⟩ := n9b.pand
  refine ⟨_, rfl, ?_⟩
  obtain ⟨c, n10⟩ := (n9.perm (B := (ex fun c => cellA s4.next [.lst 1 (By ((g.dat id).getD [])) c]) * (OrS q (g.acc g.dat id w) * emp)) (by ac_rfl)).ex
  refine ⟨_, _, ldv1 n10.cells rfl, ?_⟩
  exact (Now.toEx (w, c) (Now.toPand ⟨rfl, hw⟩ n10.drop)).unemp
theorem OrWrite_spec {q : Oq} {g : Og} (gok : GOk g) (id : Int) (data : List UInt8) (cd : Cap) :
    Does Tryz.prog F_oram_Oram_Write [.ptr q.o 0, .int .i64 id, .lst 1 (By data) cd] (OrS q g) fun r => ex fun w : Nat => pand (r = .ret (.bool (g.may id data)) ∧ w < 2 ^ g.d) (OrS q (g.acc (g.putD id data) id w)) := by
  intro st I h
  have n0 := (Now.init h).emp
  refine w_oram_Oram_Write ?_
  intro s4 h4
  have n4 := n0.newC [.ptr q.o 0]
  rw [← h4] at n4
  intro s5 h5
  have n5 := n4.newC [.int .i64 id]
  rw [← h5] at n5
  intro s6 h6
  have n6 := n5.newC [.lst 1 (By data) cd]
  rw [← h6] at n6
  have a1 := n6.perm (B := cellA st.next [.ptr q.o 0] * (cellA s4.next [.int .i64 id] * (cellA s5.next [.lst 1 (By data) cd] * (OrS q g * emp)))) (by ac_rfl)
  have a2 := n6.perm (B := cellA s4.next [.int .i64 id] * (cellA st.next [.ptr q.o 0] * (cellA s5.next [.lst 1 (By data) cd] * (OrS q g * emp)))) (by ac_rfl)
  refine ⟨_, ldv1 a1.cells rfl, _, ldv1 a2.cells rfl, ?_⟩
  refine (access_spec gok id (f3 := 28) (f3c := [.ptr s5.next 0, .ptr st.next 0, .ptr s4.next 0]) (D := cellA s5.next [.lst 1 (By data) cd] * (cellA st.next [.ptr q.o 0] * cellA s4.next [.int .i64 id])) (by kernel_rfl)
    (fun x B hx mid => write1_spec gok id data x B hx mid)).call (n6.perm (B := (OrS q g * (cellA s5.next [.lst 1 (By data) cd] * (cellA st.next [.ptr q.o 0] * cellA s4.next [.int .i64 id]))) * emp) (by ac_rfl)) ?_
  intro r8 s9 n9a
  obtain ⟨w, n9b⟩ := n9a.ex
  obtain ⟨⟨rfl, hw⟩, n9⟩ := n9b.pand
  refine ⟨_, rfl, ?_⟩
  exact (Now.toEx w (Now.toPand ⟨rfl, hw⟩ n9.unemp)).unemp
theorem OrDrop_spec {q : Oq} {g : Og} (gok : GOk g) (id : Int) :
    Does Tryz.prog F_oram_Oram_Drop [.ptr q.o 0, .int .i64 id] (OrS q g) fun r => ex fun w : Nat => pand (r = .ret (.bool (g.dat id).isSome) ∧ w < 2 ^ g.d) (OrS q (g.acc (g.delD id) id w)) := by
  intro st I h
  have n0 := (Now.init h).emp
  refine w_oram_Oram_Drop ?_
  intro s3 h3
  have n3 := n0.newC [.ptr q.o 0]
  rw [← h3] at n3
  intro s4 h4
  have n4 := n3.newC [.int .i64 id]
  rw [← h4] at n4
  have a1 := n4.perm (B := cellA st.next [.ptr q.o 0] * (cellA s3.next [.int .i64 id] * (OrS q g * emp))) (by ac_rfl)
  refine ⟨_, ldv1 a1.cells rfl, _, ldv1 n4.cells rfl, ?_⟩
  refine (access_spec gok id (f3 := 32) (f3c := [.ptr st.next 0, .ptr s3.next 0]) (D := cellA st.next [.ptr q.o 0] * cellA s3.next [.int .i64 id]) (by kernel_rfl)
    (fun x B _ mid => drop1_spec gok id x B mid)).call (n4.perm (B := (OrS q g * (cellA st.next [.ptr q.o 0] * cellA s3.next [.int .i64 id])) * emp) (by ac_rfl)) ?_
  intro r8 s9 n9a
  obtain ⟨w, n9b⟩ := n9a.ex
  obtain ⟨⟨rfl, hw⟩, n9⟩ := n9b.pand
  refine ⟨_, rfl, ?_⟩
  exact (Now.toEx w (Now.toPand ⟨rfl, hw⟩ n9.unemp)).unemp
theorem OrShown_spec {q : Oq} {g : Og} (gok : GOk g) :
    Does Tryz.prog F_oram_Oram_Shown [.ptr q.o 0] (OrS q g) fun r => ex fun c => pand (r = .ret (.lst 1 (U64s g.shown) c)) (OrS q g) := by
  intro st I h
  have nn := (Now.init h).emp
  obtain ⟨w, n0⟩ := nn.ex
  obtain ⟨inv, n1⟩ := n0.pand
  obtain ⟨c, n2⟩ := orOpen n1
  have e : (orC q w.1 c)[7]? = some (.lst 1 (U64s g.shown) c) := by rw [← inv.shown]; rfl
  refine w_oram_Oram_Shown ⟨_, _, ldv1 n2.cells e, ?_⟩
  refine (Clone64_spec (U64s g.shown) c (by have := gok.shown; simp [U64s]; omega) st).mono ?_
  rintro _ s4 ⟨c5, rfl, o5⟩
  exact ⟨_, _, rfl, (Now.toEx c5 (Now.toPand rfl (nn.le o5.le))).unemp⟩
end Go.Proofs.YtffenelcgjdbiaaGreatDoor
namespace Go.Proofs.YtffenelcgjdbiaaGreatDoor
open Go Go.Sim
set_option maxRecDepth 100000
def stateL (x : Om) : List UInt8 := psState x.ps ++ stL x.sta.most x.sta.size (srtL x.sta.l)
theorem OrState_spec {q : Oq} {x : Om} (po : PsOk x.ps) (so : StaOk x.sta) (hu : Uid x.sta.l) :
    Does Tryz.prog F_oram_Oram_State [.ptr q.o 0] (OrA q x) fun r => ex fun c => pand (r = .ret (.lst 1 (By (stateL x)) c)) (OrA q x) := by
  intro st I h
  obtain ⟨c, n0⟩ := orOpen (Now.init h).emp
  obtain ⟨K, hK⟩ : ∃ K, K = BkA q.b q.p q.dv x.bk * (SrcA q.s x.src * (capA c * emp)) := ⟨_, rfl⟩
  refine w_oram_Oram_State ⟨_, ldv1 n0.cells rfl, _, ldv1 n0.cells rfl, ?_⟩
  refine (PsState_spec po).retEx (n0.perm (B := PsA q.m x.ps * (cellA q.o (orC q x c) * (StaA q.t x.sta * K))) (by rw [hK]; ac_rfl)) ?_
  intro c6 s5 n5
  have a5 := n5.perm (B := cellA q.o (orC q x c) * (PsA q.m x.ps * (StaA q.t x.sta * K))) (by ac_rfl)
  refine ⟨_, _, rfl, ldv1 a5.cells rfl, ?_⟩
  refine (StState_spec so hu).retEx (n5.perm (B := StaA q.t x.sta * (PsA q.m x.ps * (cellA q.o (orC q x c) * K))) (by ac_rfl)) ?_
  intro c9 s8 n8
  refine ⟨_, _, rfl, ?_⟩
  have h1 := psState_length x.ps
  have h2 : (stL x.sta.most x.sta.size (srtL x.sta.l)).length = 4 + x.sta.most * (8 + x.sta.size) := stL_length (by rw [srtL_length]; exact so.long) fun c hc => so.ok c ((srtL_perm hu).mem_iff.1 hc)
  have h3 := mul_le16 so.most so.size
  have h4 := po.long
  refine (Concat_spec [(psState x.ps, .unk), (stL x.sta.most x.sta.size (srtL x.sta.l), .unk)] .exact (by simp) (by simp; omega) (by simp; omega) s8).mono ?_
  rintro _ s11 ⟨c12, rfl, o11⟩
  have e : (([(psState x.ps, Cap.unk), (stL x.sta.most x.sta.size (srtL x.sta.l), .unk)] : List (List UInt8 × Cap)).map (·.1)).flatten = stateL x := by simp [stateL]
  rw [e]
  refine ⟨_, _, rfl, (Now.toEx c12 (Now.toPand rfl (R := emp) ?_)).unemp⟩
  exact (orClose (c := c) (n8.perm (by rw [hK]; ac_rfl))).le o11.le
theorem Contains_spec {l : List Nat} (c : Cap) {k : Nat} (hk : k ∈ l) (hl : l.length ≤ 2 ^ 40) (st : St) :
    RCall Tryz.prog F_slices_Contains_int_int [.lst 1 (Is l) c, .int .i64 k] st fun r s => r = .ret (.bool true) ∧ s = st := by
  refine w_slices_Contains_int_int ?_
  refine w_slices_Index_int_int ?_
  rw [Is_length]
  refine ⟨fun n i s => ∃ j : Nat, i = j ∧ j ≤ l.length ∧ n = l.length - j ∧ (∀ a ∈ l.take j, a ≠ k) ∧ s = st, ⟨l.length, 0, rfl, by omega, rfl, fun a ha => by simp at ha, rfl⟩, ?_⟩
  rintro _ _ _ ⟨j, rfl, hj, rfl, hno, rfl⟩
  refine br (fun hlt => ?_) fun hge => ?_
  · have hj' : j < l.length := by omega
    refine ⟨j, rfl, _, Is_get hj', breq (fun he => ?_) fun hne => ?_⟩
    · exact ⟨_, rfl, by rw [show decide ((j : Int) ≥ 0) = true by simp], rfl⟩
    · refine ⟨l.length - (j + 1), by omega, j + 1, by rw [w64 (by omega)]; omega, by omega, rfl, fun a ha => ?_, rfl⟩
      rw [List.take_succ_eq_append_getElem hj'] at ha
      rcases List.mem_append.1 ha with ha | ha
      · exact hno a ha
      · rw [List.mem_singleton] at ha; subst ha; omega
  · rw [List.take_of_length_le (by omega)] at hno
    exact absurd rfl (hno k hk)
theorem right_spec {q : Oq} {x : Om} (hd : x.d ≤ 16) (po : PsOk x.ps) (e : Cel) (cap : Cap) (k : Nat) {dr : Nat} (hg : psGet x.ps e.id = some (e.leaf, dr)) (hl : e.leaf < 2 ^ x.d) (hk : k ∈ onL x.d e.leaf) :
    Does Tryz.prog F_oram_Oram_right [.ptr q.o 0, e.v cap, .int .i64 k] (OrA q x) fun r => pand (r = .ret (.bool true)) (OrA q x) := by
  intro st I h
  refine w_oram_Oram_right ?_
  intro s6 h6
  have n6 := (Now.init h).newC (e.cs cap)
  rw [show st.newC (e.cs cap) = s6 from h6.symm] at n6
  obtain ⟨c, n7⟩ := orOpen ((n6.perm (sep_comm _ _)))
  obtain ⟨K, hK⟩ : ∃ K, K = BkA q.b q.p q.dv x.bk * (SrcA q.s x.src * (StaA q.t x.sta * capA c)) := ⟨_, rfl⟩
  have a7 := n7.perm (B := cellA st.next (e.cs cap) * (cellA q.o (orC q x c) * (PsA q.m x.ps * K))) (by rw [hK]; ac_rfl)
  refine ⟨_, ldv1 n7.cells rfl, _, ldv1 a7.cells rfl, ?_⟩
  refine (PsGet_spec (e.id : Int) po).ret (a7.perm (B := PsA q.m x.ps * (cellA st.next (e.cs cap) * (cellA q.o (orC q x c) * K))) (by ac_rfl)) ?_
  intro s10 n10
  rw [hg]
  refine ⟨_, _, _, rfl, ?_⟩
  intro s14 h14
  have n14 := n10.newC [.int .i64 0, .int .u64 0]
  rw [← h14] at n14
  refine ⟨rfl, rfl, _, n14.cells, by decide, ?_⟩
  rw [repl_two']
  intro s16 h16
  have n16 := n14.set (posC e.leaf dr)
  rw [show s14.setC s10.next (posC e.leaf dr) = s16 from h16.symm] at n16
  have b16 := n16.perm (B := cellA st.next (e.cs cap) * (cellA s10.next (posC e.leaf dr) * (cellA q.o (orC q x c) * (PsA q.m x.ps * K)))) (by ac_rfl)
  have c16 := n16.perm (B := cellA q.o (orC q x c) * (cellA s10.next (posC e.leaf dr) * (cellA st.next (e.cs cap) * (PsA q.m x.ps * K)))) (by ac_rfl)
  intro K20 h20
  refine ⟨fun _ => ⟨_, ldv1 n16.cells rfl, _, ldv1 b16.cells rfl, ?_⟩, fun h => (by cases h)⟩
  refine h20 _ _ ?_
  intro K31 h31
  refine ⟨fun _ => ⟨_, ldv1 c16.cells rfl, _, ldv1 n16.cells rfl, ?_⟩, fun h => (by simp at h)⟩
  refine (On_spec hd hl s16).mono ?_
  rintro _ s25 ⟨c26, rfl, o25⟩
  refine ⟨_, _, rfl, ?_⟩
  refine (Contains_spec c26 hk (by rw [onL_len]; omega) s25).mono ?_
  rintro _ s28 ⟨rfl, rfl⟩
  refine ⟨_, rfl, h31 _ _ (Now.toPand rfl (R := emp) ?_).unemp⟩
  refine orClose (c := c) (((b16.le o25.le).drop.drop).perm ?_)
  rw [hK]
  have : cellA q.o (orC q x c) * (PsA q.m x.ps * (BkA q.b q.p q.dv x.bk * (SrcA q.s x.src * (StaA q.t x.sta * capA c)))) = cellA q.o (orC q x c) * (PsA q.m x.ps * (BkA q.b q.p q.dv x.bk * (SrcA q.s x.src * (StaA q.t x.sta * (capA c * emp))))) := by rw [sep_emp]
  rw [this]; ac_rfl
def ones (l : List Cel) : List (V × V) := l.map fun c => (.int .i64 c.id, .int .i64 1)
theorem lookM_ones (l : List Cel) (id : Int) : lookM (ones l) .i64 id = some ((look l id).map fun _ => .int .i64 1) := by
  induction l with
  | nil => rfl
  | cons x r ih =>
    show (if IntKind.i64 = IntKind.i64 then (if id = (x.id : Int) then some (some (V.int .i64 1)) else lookM (ones r) .i64 id) else none) = _
    rw [if_pos rfl, look, List.find?_cons]
    by_cases h : id = (x.id : Int)
    · rw [if_pos h, decide_eq_true h.symm]; rfl
    · rw [if_neg h, decide_eq_false (fun e => h e.symm), ih]; rfl
theorem updM_ones {l : List Cel} {c : Cel} (h : ∀ y ∈ l, (y.id : Int) ≠ c.id) : updM (ones l) .i64 (c.id : Int) (.int .i64 1) = ones (l ++ [c]) := by
  induction l with
  | nil => rfl
  | cons x r ih =>
    show (if (c.id : Int) = (x.id : Int) then _ else (V.int .i64 x.id, V.int .i64 1) :: updM (ones r) .i64 c.id (.int .i64 1)) = _
    rw [if_neg fun e => h x (List.mem_cons_self ..) e.symm, ih fun y hy => h y (List.mem_cons_of_mem _ hy)]; rfl
theorem mlook_ones {st : St} {m : Nat} {l : List Cel} (h : st.maps m = some (ones l)) (id : Int) : st.mlook m .i64 id (.int .i64 0) = some (.int .i64 (if (look l id).isSome then 1 else 0), (look l id).isSome) := by
  unfold St.mlook
  rw [h]
  simp only [Option.bind_some, lookM_ones, Option.map_some]
  cases look l id <;> rfl
def cntP (ps : Ps) (n : Nat) : Nat := ((List.range n).filter fun (j : Nat) => (psGet ps (j : Int)).isSome).length
theorem cntP_succ (ps : Ps) (n : Nat) : cntP ps (n + 1) = if (psGet ps (n : Int)).isSome then cntP ps n + 1 else cntP ps n := by
  unfold cntP
  rw [List.range_succ, List.filter_append, List.length_append]
  by_cases h : (psGet ps (n : Int)).isSome = true <;> simp [h]
theorem cntP_all {d size : Nat} {y : Os} (h : OsOk d size y) : cntP y.ps (12 * y.ps.length) = (allC d y).length := by
  have hmem : ∀ a : Int, a ∈ ((List.range (12 * y.ps.length)).filter fun (j : Nat) => (psGet y.ps (j : Int)).isSome).map (fun n : Nat => (n : Int)) ↔ a ∈ (allC d y).map fun c => (c.id : Int) := by
    intro a
    rw [List.mem_map, List.mem_map]
    constructor
    · rintro ⟨n, hn, rfl⟩
      rw [List.mem_filter] at hn
      obtain ⟨p, hp⟩ := Option.isSome_iff_exists.1 hn.2
      obtain ⟨c, hc, e⟩ := h.there _ p hp
      exact ⟨c, hc, e⟩
    · rintro ⟨c, hc, rfl⟩
      obtain ⟨_, dr, hg⟩ := h.cell c hc
      have := psHas_get hg
      simp only [psHas, decide_eq_true_eq] at this
      exact ⟨c.id, List.mem_filter.2 ⟨List.mem_range.2 (by omega), by rw [hg]; rfl⟩, rfl⟩
  have hn : (((List.range (12 * y.ps.length)).filter fun (j : Nat) => (psGet y.ps (j : Int)).isSome).map (fun n : Nat => (n : Int))).Nodup := by
    rw [List.Nodup, List.pairwise_map]
    exact (List.Pairwise.filter _ List.nodup_range).imp fun h e => h (by omega)
  have := ((List.perm_ext_iff_of_nodup hn h.uid).2 hmem).length_eq
  rw [List.length_map, List.length_map] at this
  exact this
theorem look_pre {l m : List Cel} {c : Cel} (h : Uid (l ++ (c :: m))) : ∀ y ∈ l, (y.id : Int) ≠ c.id := by
  intro y hy e
  unfold Uid at h
  rw [List.map_append, List.nodup_append] at h
  exact h.2.2 _ (List.mem_map.2 ⟨y, hy, rfl⟩) _ (List.mem_map.2 ⟨c, List.mem_cons_self .., rfl⟩) e
theorem allB_cut {n k : Nat} (hk : k < n) (B : Nat → List Cel) : ∃ r, allB n B = allB k B ++ (B k ++ r) := by
  induction n with
  | zero => omega
  | succ n ih =>
    by_cases h : k = n
    · subst h; exact ⟨[], by rw [allB_succ, List.append_nil]⟩
    · obtain ⟨r, hr⟩ := ih (by omega)
      exact ⟨r ++ B n, by rw [allB_succ, hr]; simp only [List.append_assoc]⟩
theorem Check_spec {q : Oq} {x : Om} {m n : Nat} {B : Nat → List Cel} (hn : n = 2 * 2 ^ x.d - 1) (hd : x.d ≤ 16) (hz : x.z ≤ 16) (hb : BkR x.bk m n x.z x.size B) (hm : m ≤ 2 ^ 39) (os : OsOk x.d x.size ⟨x.ps, x.sta.l, B⟩) (so : StaOk x.sta) (hss : x.sta.size = x.size) :
    Does Tryz.prog F_oram_Oram_Check [.ptr q.o 0] (OrA q x) fun r => ex fun bk => pand (r = .ret (.bool true) ∧ BkR bk (m + n) n x.z x.size B ∧ bk.tr = x.bk.tr ++ evR (List.range n)) (OrA q { x with bk := bk }) := by
  intro st I h
  have nn := (Now.init h).emp
  have po : PsOk x.ps := os.full.ok
  have hs6 : x.size ≤ 60000 := by rw [← hss]; exact so.size
  have hpow : 2 ^ x.d ≤ 2 ^ 16 := Nat.pow_le_pow_right (by decide) hd
  have hul : Uid x.sta.l := os.uid.left
  have huB : Uid (allB n B ++ srtL x.sta.l) := by
    refine os.uid.perm ?_
    unfold allC
    dsimp only
    rw [← hn]
    exact List.perm_append_comm.trans ((srtL_perm hul).symm.append_left _)
  have hbig : ∀ k < n, ∀ e ∈ B k, e ∈ allC x.d ⟨x.ps, x.sta.l, B⟩ := fun k hk e he => List.mem_append_right _ (mem_allB.2 ⟨k, by omega, he⟩)
  refine w_oram_Oram_Check ?_
  intro s2 h2
  have n2 := nn.newM
  rw [← h2] at n2
  obtain ⟨c0, n2'⟩ := orOpen (n2.perm (B := OrA q x * (mapA st.next [] * emp)) (by ac_rfl))
  refine ⟨_, ldv1 n2'.cells rfl, ?_⟩
  refine (Buckets_spec hd s2).mono ?_
  rintro _ s5 ⟨rfl, l5⟩
  refine ⟨_, rfl, ?_⟩
  rw [← hn]
  refine ⟨fun k i s => ∃ j : Nat, i = j ∧ j ≤ n ∧ k = n - j ∧ ∃ bk, BkR bk (m + j) n x.z x.size B ∧ bk.tr = x.bk.tr ++ evR (List.range j) ∧ Now st I (OrA q { x with bk := bk } * (mapA st.next (ones (allB j B)) * emp)) s,
    ⟨n, 0, rfl, by omega, rfl, x.bk, hb, by simp [evR], ((n2.le l5).perm (by show _ = OrA q x * (mapA st.next [] * emp); ac_rfl))⟩, ?_⟩
  rintro _ _ s10 ⟨j, rfl, hj, rfl, bk, hbk, htr, n10⟩
  refine br (fun hlt => ?_) fun hge => ?_
  · have hjn : j < n := by omega
    refine (bucket_spec (x := { x with bk := bk }) j hjn hz hs6 hbk (by omega)).retEx n10 ?_
    intro c13 s12 n12
    refine ⟨_, _, rfl, ?_⟩
    rw [Cels_length]
    refine ⟨fun k i s => ∃ t : Nat, i = t ∧ t ≤ (B j).length ∧ k = (B j).length - t ∧ Now st I (OrA q { x with bk := bk.read j } * (mapA st.next (ones (allB j B ++ (B j).take t)) * emp)) s,
      ⟨(B j).length, 0, rfl, by omega, rfl, by simpa using n12⟩, ?_⟩
    rintro _ _ s17 ⟨t, rfl, ht, rfl, n17⟩
    have hroom := hb.room j hjn
    refine br (fun hlt2 => ?_) fun hge2 => ?_
    · have ht' : t < (B j).length := by omega
      refine ⟨t, rfl, _, _, _, _, Cels_get ht', ?_⟩
      have hmem := hbig j hjn _ (List.getElem_mem ht')
      have hon := os.on j (by rw [← hn]; exact hjn) _ (List.getElem_mem ht')
      have estep : (B j).take (t + 1) = (B j).take t ++ [(B j)[t]] := List.take_succ_eq_append_getElem ht'
      have hpre : ∀ y ∈ allB j B ++ (B j).take t, (y.id : Int) ≠ (B j)[t].id := by
        obtain ⟨r, hr⟩ := allB_cut hjn B
        refine look_pre (m := (B j).drop (t + 1) ++ (r ++ srtL x.sta.l)) ?_
        rw [hr] at huB
        have e : B j = (B j).take t ++ ((B j)[t] :: (B j).drop (t + 1)) := by
          conv => lhs; rw [← List.take_append_drop t (B j), List.drop_eq_getElem_cons ht']
        rw [e] at huB
        simpa only [List.append_assoc, List.cons_append] using huB
      generalize (B j)[t] = e at hmem hon estep hpre ⊢
      obtain ⟨hcel, dr, hg⟩ := os.cell e hmem
      dsimp only at hg
      intro s22 h22
      have n22 := n17.newC [.int .i64 0, .int .i64 0, .lst 1 [] .nil]
      rw [← h22] at n22
      refine ⟨rfl, rfl, _, n22.cells, by decide, ?_⟩
      rw [repl_three]
      intro s24 h24
      have n24 := n22.set (e.cs .unk)
      rw [show s22.setC s17.next (e.cs .unk) = s24 from h24.symm] at n24
      have m24 := n24.perm (B := mapA st.next (ones (allB j B ++ (B j).take t)) * (cellA s17.next (e.cs .unk) * (OrA q { x with bk := bk.read j } * emp))) (by ac_rfl)
      have hlk : look (allB j B ++ (B j).take t) e.id = none := look_new hpre
      refine ⟨_, ldv1 n24.cells rfl, _, _, mlook_ones m24.maps e.id, _, m24.maps, by rw [lookM_ones]; rfl, ?_⟩
      rw [hlk]
      intro s29 h29
      rw [show IntKind.i64.wrap ((if (none : Option Cel).isSome = true then (1 : Int) else 0) + 1) = 1 from rfl, updM_ones hpre, List.append_assoc, ← estep] at h29
      have n29 := m24.setM (ones (allB j B ++ (B j).take (t + 1)))
      rw [← h29] at n29
      have m29 := n29.perm (B := cellA s17.next (e.cs .unk) * (mapA st.next (ones (allB j B ++ (B j).take (t + 1))) * (OrA q { x with bk := bk.read j } * emp))) (by ac_rfl)
      refine ⟨_, _, _, _, ldvg m29.cells rfl, ?_⟩
      refine (right_spec (x := { x with bk := bk.read j }) hd po e .unk j hg (os.leaf _ _ hg) hon).ret (n29.perm (B := OrA q { x with bk := bk.read j } * (cellA s17.next (e.cs .unk) * (mapA st.next (ones (allB j B ++ (B j).take (t + 1))) * emp))) (by ac_rfl)) ?_
      intro s34 n34
      refine ⟨_, rfl, fun h => (by cases h), fun _ => ⟨(B j).length - (t + 1), by omega, t + 1, by rw [w64 (by omega)]; omega, by omega, rfl, ?_⟩⟩
      exact (n34.perm (B := cellA s17.next (e.cs .unk) * (OrA q { x with bk := bk.read j } * (mapA st.next (ones (allB j B ++ (B j).take (t + 1))) * emp))) (by ac_rfl)).drop
    · rw [List.take_of_length_le (show (B j).length ≤ t by omega), ← allB_succ] at n17
      refine ⟨n - (j + 1), by omega, j + 1, by rw [w64 (by omega)]; omega, by omega, rfl, bk.read j, hbk.read j, ?_, n17⟩
      rw [hbk.tr_read, htr, List.range_succ, evR, evR, List.map_append, List.append_assoc]; rfl
  · have hjn : j = n := by omega
    subst hjn
    obtain ⟨c1, n11⟩ := orOpen n10
    refine ⟨_, ldv1 n11.cells rfl, ?_⟩
    obtain ⟨K, hK⟩ : ∃ K, K = BkA q.b q.p q.dv bk * (SrcA q.s x.src * (capA c1 * emp)) := ⟨_, rfl⟩
    have m11 := n11.perm (B := StaA q.t x.sta * (cellA q.o (orC q x c1) * (PsA q.m x.ps * (mapA st.next (ones (allB j B)) * K)))) (by rw [hK]; show cellA q.o (orC q x c1) * _ = _; ac_rfl)
    have hlong := so.long
    have hmost := so.most
    refine (IDs_spec (by omega) (fun e he => (so.ok e he).id)).retEx m11 ?_
    intro c41 s40 n40
    refine ⟨_, _, rfl, ?_⟩
    have hil : (idsL x.sta.l).length = x.sta.l.length := by rw [(idsL_perm x.sta.l).length_eq, List.length_map]
    rw [show ((idsL x.sta.l).map (V.int .i64)).length = x.sta.l.length by rw [List.length_map, hil]]
    refine ⟨fun k i s => ∃ t : Nat, i = t ∧ t ≤ x.sta.l.length ∧ k = x.sta.l.length - t ∧ Now st I (StaA q.t x.sta * (cellA q.o (orC q x c1) * (PsA q.m x.ps * (mapA st.next (ones (allB j B ++ (srtL x.sta.l).take t)) * K)))) s,
      ⟨x.sta.l.length, 0, rfl, by omega, rfl, by simpa using n40⟩, ?_⟩
    rintro _ _ s45 ⟨t, rfl, ht, rfl, n45⟩
    refine br (fun hlt2 => ?_) fun hge2 => ?_
    · have ht' : t < (srtL x.sta.l).length := by rw [srtL_length]; omega
      have ht2 : t < (idsL x.sta.l).length := by omega
      refine ⟨t, rfl, _, by rw [List.getElem?_map, List.getElem?_eq_getElem ht2]; rfl, ?_⟩
      have ec : celOr x.sta.l (idsL x.sta.l)[t] = (srtL x.sta.l)[t] := by simp only [srtL, List.getElem_map]
      have hem : (srtL x.sta.l)[t] ∈ x.sta.l := (srtL_perm hul).mem_iff.1 (List.getElem_mem ht')
      have eid : (idsL x.sta.l)[t] = ((srtL x.sta.l)[t].id : Int) := by
        have := srtL_ids hul
        have e2 : (idsL x.sta.l)[t] = ((srtL x.sta.l).map fun c => (c.id : Int))[t]'(by rw [List.length_map]; exact ht') := by simp only [this]
        rw [e2, List.getElem_map]
      have hpre : ∀ y ∈ allB j B ++ (srtL x.sta.l).take t, (y.id : Int) ≠ (srtL x.sta.l)[t].id := by
        refine look_pre (m := (srtL x.sta.l).drop (t + 1)) ?_
        have e : srtL x.sta.l = (srtL x.sta.l).take t ++ ((srtL x.sta.l)[t] :: (srtL x.sta.l).drop (t + 1)) := by
          conv => lhs; rw [← List.take_append_drop t (srtL x.sta.l), List.drop_eq_getElem_cons ht']
        rw [e] at huB
        simpa only [List.append_assoc] using huB
      have estep : (srtL x.sta.l).take (t + 1) = (srtL x.sta.l).take t ++ [(srtL x.sta.l)[t]] := List.take_succ_eq_append_getElem ht'
      rw [eid] at ec ⊢
      generalize (srtL x.sta.l)[t] = e at ec hem hpre estep ⊢
      obtain ⟨hcel, dr, hg⟩ := os.cell e (List.mem_append_left _ hem)
      dsimp only at hg
      have a45 := n45.perm (B := cellA q.o (orC q x c1) * (StaA q.t x.sta * (PsA q.m x.ps * (mapA st.next (ones (allB j B ++ (srtL x.sta.l).take t)) * K)))) (by ac_rfl)
      refine ⟨_, ldv1 a45.cells rfl, ?_⟩
      refine (StPeek_spec (e.id : Int) so).retEx n45 ?_
      intro c53 s50 n50
      rw [celR, look_mem hul hem, ec]
      refine ⟨_, _, _, _, _, rfl, ?_⟩
      intro s55 h55
      have n55 := n50.newC [.int .i64 0, .int .i64 0, .lst 1 [] .nil]
      rw [← h55] at n55
      refine ⟨rfl, rfl, _, n55.cells, by decide, ?_⟩
      rw [repl_three]
      intro s57 h57
      have n57 := n55.set (e.cs c53)
      rw [show s55.setC s50.next (e.cs c53) = s57 from h57.symm] at n57
      have a57 := n57.perm (B := cellA q.o (orC q x c1) * (cellA s50.next (e.cs c53) * (StaA q.t x.sta * (PsA q.m x.ps * (mapA st.next (ones (allB j B ++ (srtL x.sta.l).take t)) * K))))) (by ac_rfl)
      refine ⟨_, ldv1 a57.cells rfl, ?_⟩
      refine (PsGet_spec (e.id : Int) po).ret (n57.perm (B := PsA q.m x.ps * (cellA q.o (orC q x c1) * (cellA s50.next (e.cs c53) * (StaA q.t x.sta * (mapA st.next (ones (allB j B ++ (srtL x.sta.l).take t)) * K))))) (by ac_rfl)) ?_
      intro s60 n60
      rw [hg]
      refine ⟨_, _, _, rfl, ?_⟩
      intro s64 h64
      have n64 := n60.newC [.int .i64 0, .int .u64 0]
      rw [← h64] at n64
      refine ⟨rfl, rfl, _, n64.cells, by decide, ?_⟩
      rw [repl_two']
      intro s66 h66
      have n66 := n64.set (posC e.leaf dr)
      rw [show s64.setC s60.next (posC e.leaf dr) = s66 from h66.symm] at n66
      have m66 := n66.perm (B := mapA st.next (ones (allB j B ++ (srtL x.sta.l).take t)) * (cellA s60.next (posC e.leaf dr) * (PsA q.m x.ps * (cellA q.o (orC q x c1) * (cellA s50.next (e.cs c53) * (StaA q.t x.sta * K)))))) (by ac_rfl)
      have hlk : look (allB j B ++ (srtL x.sta.l).take t) e.id = none := look_new hpre
      refine ⟨_, _, mlook_ones m66.maps e.id, _, m66.maps, by rw [lookM_ones]; rfl, ?_⟩
      rw [hlk]
      intro s70 h70
      rw [show IntKind.i64.wrap ((if (none : Option Cel).isSome = true then (1 : Int) else 0) + 1) = 1 from rfl, updM_ones hpre, List.append_assoc, ← estep] at h70
      have n70 := m66.setM (ones (allB j B ++ (srtL x.sta.l).take (t + 1)))
      rw [← h70] at n70
      have b70 := n70.perm (B := cellA s60.next (posC e.leaf dr) * (cellA s50.next (e.cs c53) * (StaA q.t x.sta * (cellA q.o (orC q x c1) * (PsA q.m x.ps * (mapA st.next (ones (allB j B ++ (srtL x.sta.l).take (t + 1))) * K)))))) (by ac_rfl)
      have c70 := b70.perm (B := cellA s50.next (e.cs c53) * (cellA s60.next (posC e.leaf dr) * (StaA q.t x.sta * (cellA q.o (orC q x c1) * (PsA q.m x.ps * (mapA st.next (ones (allB j B ++ (srtL x.sta.l).take (t + 1))) * K)))))) (by ac_rfl)
      intro K74 h74
      refine ⟨fun _ => ⟨_, ldv1 b70.cells rfl, _, ldv1 c70.cells rfl, ?_⟩, fun h => (by cases h)⟩
      refine h74 _ _ ⟨fun h => ?_, fun _ => ⟨x.sta.l.length - (t + 1), by omega, t + 1, by rw [w64 (by omega)]; omega, by omega, rfl, b70.drop.drop⟩⟩
      simp at h
    · have hsl : (srtL x.sta.l).take t = srtL x.sta.l := List.take_of_length_le (by rw [srtL_length]; omega)
      rw [hsl] at n45
      have a45 := n45.perm (B := cellA q.o (orC q x c1) * (StaA q.t x.sta * (PsA q.m x.ps * (mapA st.next (ones (allB j B ++ srtL x.sta.l)) * K)))) (by ac_rfl)
      refine ⟨_, ldv1 a45.cells rfl, ?_⟩
      refine (PsState_spec po).retEx (n45.perm (B := PsA q.m x.ps * (StaA q.t x.sta * (cellA q.o (orC q x c1) * (mapA st.next (ones (allB j B ++ srtL x.sta.l)) * K)))) (by ac_rfl)) ?_
      intro c80 s79 n79
      refine ⟨_, _, rfl, ?_⟩
      rw [By_length, psState_length]
      have hpl := po.long
      have hcnt : ∀ k, cntP x.ps k ≤ k := fun k => by
        unfold cntP
        exact Nat.le_trans (List.length_filter_le _ _) (by rw [List.length_range]; exact Nat.le_refl _)
      refine ⟨fun k c i s => ∃ t : Nat, i = t ∧ t ≤ 12 * x.ps.length ∧ k = 12 * x.ps.length - t ∧ c = (cntP x.ps t : Int) ∧ Now st I (PsA q.m x.ps * (StaA q.t x.sta * (cellA q.o (orC q x c1) * (mapA st.next (ones (allB j B ++ srtL x.sta.l)) * K)))) s,
        ⟨12 * x.ps.length, 0, rfl, by omega, rfl, rfl, n79⟩, ?_⟩
      rintro _ _ _ s85 ⟨t2, rfl, ht2, rfl, rfl, n85⟩
      refine br (fun hlt3 => ?_) fun hge3 => ?_
      · intro K98 h98
        have a85 := n85.perm (B := cellA q.o (orC q x c1) * (PsA q.m x.ps * (StaA q.t x.sta * (mapA st.next (ones (allB j B ++ srtL x.sta.l)) * K)))) (by ac_rfl)
        refine ⟨_, ldv1 a85.cells rfl, ?_⟩
        refine (PsGet_spec (t2 : Int) po).ret n85 ?_
        intro s88 n88
        refine ⟨_, _, _, rfl, ?_⟩
        intro s92 h92
        have n92 := n88.newC [.int .i64 0, .int .u64 0]
        rw [← h92] at n92
        refine ⟨rfl, rfl, _, n92.cells, by decide, ?_⟩
        rw [repl_two']
        intro s94 h94
        have n94 := n92.set (posC ((psGet x.ps t2).getD (0, 0)).1 ((psGet x.ps t2).getD (0, 0)).2)
        rw [show s92.setC s88.next (posC ((psGet x.ps t2).getD (0, 0)).1 ((psGet x.ps t2).getD (0, 0)).2) = s94 from h94.symm] at n94
        have n95 := n94.drop
        have m95 := n95.perm (B := mapA st.next (ones (allB j B ++ srtL x.sta.l)) * (PsA q.m x.ps * (StaA q.t x.sta * (cellA q.o (orC q x c1) * K)))) (by ac_rfl)
        have hc := hcnt t2
        have hcs := cntP_succ x.ps t2
        refine ⟨fun hs => ?_, fun hs => ?_⟩
        · rw [hs, if_pos rfl] at hcs
          obtain ⟨p, hp⟩ := Option.isSome_iff_exists.1 hs
          obtain ⟨e, he, hid⟩ := os.there _ p hp
          have hlk : look (allB j B ++ srtL x.sta.l) t2 = some e := by
            rw [← hid]
            refine look_mem huB ?_
            rcases List.mem_append.1 he with he | he
            · exact List.mem_append_right _ ((srtL_perm hul).mem_iff.2 he)
            · exact List.mem_append_left _ (by rw [hn]; exact he)
          refine ⟨_, _, mlook_ones m95.maps t2, ?_⟩
          rw [hlk]
          refine ⟨fun h => (by simp at h), fun _ => h98 _ _ ⟨12 * x.ps.length - (t2 + 1), by omega, t2 + 1, by rw [w64 (by omega)]; omega, by omega, rfl, ?_, n95⟩⟩
          rw [hcs, w64 (by omega)]; omega
        · rw [hs, if_neg (by decide)] at hcs
          refine h98 _ _ ⟨12 * x.ps.length - (t2 + 1), by omega, t2 + 1, by rw [w64 (by omega)]; omega, by omega, rfl, ?_, n95⟩
          rw [hcs]
      · have e12 : t2 = 12 * x.ps.length := by omega
        subst e12
        have m85 := n85.perm (B := mapA st.next (ones (allB j B ++ srtL x.sta.l)) * (cellA q.o (orC q x c1) * (BkA q.b q.p q.dv bk * (SrcA q.s x.src * (PsA q.m x.ps * (StaA q.t x.sta * (capA c1 * emp))))))) (by rw [hK]; ac_rfl)
        refine ⟨_, m85.maps, ?_⟩
        have hall := cntP_all os
        dsimp only at hall
        have hlen : (ones (allB j B ++ srtL x.sta.l)).length = (allC x.d ⟨x.ps, x.sta.l, B⟩).length := by
          unfold ones allC
          dsimp only
          rw [List.length_map, List.length_append, List.length_append, srtL_length, ← hn]; omega
        rw [hall, hlen]
        refine (Now.toEx bk (Now.toPand ⟨by simp, hbk, htr⟩ (R := emp) ?_)).unemp
        exact orClose (c := c1) m85.drop
end Go.Proofs.YtffenelcgjdbiaaGreatDoor
namespace Go.Proofs.YtffenelcgjdbiaaGreatDoor
open Go Go.Sim
set_option maxRecDepth 100000
theorem now_frame0 {st0 st s : St} {I : Nat → Prop} {A R : Asn} (h : Now st (fun _ => False) A s) (n : Now st0 I R st) : Now st0 I (A * R) s := by
  obtain ⟨J, hA, hm⟩ := h
  exact n.fresh ⟨hm.leX.next, fun i hi => hm.leX.cells i hi fun h => h, fun i hi => hm.leX.maps i hi fun h => h, fun i hi => hm.leX.tok i hi fun h => h⟩ hA fun i hi => (hm.fp i hi).resolve_left fun h => h
def blankB (key : List UInt8) (size : Nat) : Bool := (openL key (List.replicate size 0)).isSome
theorem Blank_spec (key : List UInt8) (size : Nat) (hk : key.length = 32) (hs : size ≤ 60000) (st : St) :
    RCall Tryz.prog F_law10_Blank [.agg (By key), .int .i64 size] st fun r s => r = .ret (.bool (blankB key size)) ∧ st.le s := by
  refine w_law10_Blank ?_
  intro s3 h3
  have c3 : s3.cells st.next = some (By key) := by rw [h3]; exact cells_new _ _
  have l3 : st.le s3 := by rw [h3]; exact (St.le.refl _).new _
  refine ⟨_, ldvg c3 (by simp [hk]), size, rfl, rfl, by omega, ?_⟩
  rw [By_rep]
  refine (ROpen_spec key (List.replicate size 0) .exact hk (by simp; omega) s3).mono ?_
  intro r s7 hr
  unfold OpenR at hr
  unfold blankB
  cases ho : openL key (List.replicate size 0) with
  | none =>
    rw [ho] at hr
    obtain ⟨rfl, hle⟩ := hr
    exact ⟨_, _, _, _, _, rfl, rfl, l3.trans hle⟩
  | some q =>
    obtain ⟨q, b, t⟩ := q
    rw [ho] at hr
    obtain ⟨c', rfl, hle⟩ := hr
    exact ⟨_, _, _, _, _, rfl, rfl, l3.trans hle.le⟩
def og0 (d z size ids : Nat) (tape : List Nat) : Og := ⟨d, z, size, ids, 0, 0, tape, fun _ => none, [], [], fun _ => none⟩
theorem psGet_rep (n : Nat) (i : Int) : psGet (List.replicate n (0, 0)) i = none := by
  unfold psGet
  rw [if_neg]
  rintro ⟨h, h2⟩
  apply h2
  unfold psAt
  rw [List.getD_eq_getElem?_getD, List.getElem?_replicate]
  split <;> rfl
theorem allB_nil (n : Nat) : allB n (fun _ => []) = [] := by
  induction n with
  | zero => rfl
  | succ n ih => rw [allB_succ, ih]; rfl
theorem osOk_new {d size ids : Nat} (hi : ids ≤ 10000) : OsOk d size ⟨List.replicate ids (0, 0), [], fun _ => []⟩ := by
  have e : allC d ⟨List.replicate ids (0, 0), [], fun _ => []⟩ = [] := by unfold allC; rw [allB_nil]; rfl
  have hm : ∀ p ∈ List.replicate ids ((0, 0) : Nat × Nat), p = (0, 0) := fun p hp => (List.mem_replicate.1 hp).2
  refine ⟨⟨⟨by simpa using hi, fun p hp => ?_⟩, fun p hp => ?_⟩, fun i p hp => ?_, ?_, ?_, (fun k _ c hc => nomatch hc), fun i p hp => ?_⟩
  · rw [hm p hp]; exact ⟨Nat.zero_le _, by decide⟩
  · rw [hm p hp]; exact fun _ => rfl
  · rw [psGet_rep] at hp; cases hp
  · rw [e]; exact List.nodup_nil
  · rw [e]; intro c hc; cases hc
  · rw [psGet_rep] at hp; cases hp
def bk0 (key : List UInt8) (d z size : Nat) : Bk := ⟨⟨.new (2 * (2 * 2 ^ d - 1)) (22 + z * (8 + size)), key, 1, 0⟩, 0, List.replicate (2 * 2 ^ d - 1) (true, false)⟩
theorem bkR_new {key : List UInt8} {d z size : Nat} (hk : key.length = 32) (hd : d ≤ 10) (hfit : z * (8 + size) ≤ 50000) (hbl : blankB key (22 + z * (8 + size)) = false) : BkR (bk0 key d z size) 0 (2 * 2 ^ d - 1) z size fun _ => [] := by
  have hpow : 2 ^ d ≤ 2 ^ 10 := Nat.pow_le_pow_right (by decide) hd
  refine ⟨hk, show (1 : Nat) < 2 ^ 32 by decide, Nat.le_refl 0, Nat.le_refl 0, rfl, List.length_replicate, by omega, hfit, rfl, rfl, (fun e he => nomatch he), ?_, (fun _ _ => Nat.zero_le _), (fun _ _ e he => nomatch he)⟩
  intro k hk2
  left
  refine ⟨?_, rfl⟩
  have hbk : (Dk.new (2 * (2 * 2 ^ d - 1)) (22 + z * (8 + size))).block ((2 * k + 1 : Nat) : Int) = List.replicate (22 + z * (8 + size)) 0 := by
    unfold Dk.block Dk.has Dk.new
    rw [if_pos (by dsimp only; rw [decide_eq_true_eq]; omega)]
  have hcur : Bk.cur (bk0 key d z size) k = 2 * k + 1 := by simp [Bk.cur, Bk.blk, Bk.at', bk0, hk2]
  show (openL key ((Dk.new (2 * (2 * 2 ^ d - 1)) (22 + z * (8 + size))).block (Bk.cur _ k : Nat))).map (·.1) = none
  rw [hcur, hbk]
  unfold blankB at hbl
  cases ho : openL key (List.replicate (22 + z * (8 + size)) 0) with
  | none => rfl
  | some q => rw [ho] at hbl; cases hbl
theorem Made_spec (key : List UInt8) (tape : List Nat) (c : Cap) (d z size ids : Nat) (hk : key.length = 32) (htl : tape.length ≤ 2 ^ 40) (hd : d ≤ 10) (hz : z ≤ 16) (hs : size ≤ 60000) (hi : ids ≤ 10000) (hfit : z * (8 + size) ≤ 50000) (st : St) :
    RCall Tryz.prog F_law17_Made [.agg (By key), .lst 1 (U32s tape) c, .int .i64 ids, .int .i64 (2 ^ d : Nat), .int .i64 z, .int .i64 size] st fun r s =>
      if blankB key (22 + z * (8 + size)) then r = .ret (.tup [.nilp, .nilp, .nilp]) ∧ st.le s
      else ∃ q : Oq, r = .ret (.tup [.ptr q.o 0, .ptr q.b 0, .ptr q.dv 0]) ∧ ∀ st0 I R, Now st0 I R st → Now st0 I (OrS q (og0 d z size ids tape) * R) s := by
  have hpow : 2 ^ d ≤ 2 ^ 10 := Nat.pow_le_pow_right (by decide) hd
  have hpow1 : 1 ≤ 2 ^ d := Nat.one_le_two_pow
  refine w_law17_Made ?_
  intro s7 h7
  have c7 : s7.cells st.next = some (By key) := by rw [h7]; exact cells_new _ _
  have l7 : st.le s7 := by rw [h7]; exact (St.le.refl _).new _
  refine (RBuckets_spec (show d ≤ 16 by omega) s7).mono ?_
  rintro _ s9 ⟨rfl, l9⟩
  refine ⟨_, rfl, ?_⟩
  have ew : IntKind.i64.wrap (22 + IntKind.i64.wrap ((z : Int) * IntKind.i64.wrap (8 + (size : Int)))) = ((22 + z * (8 + size) : Nat) : Int) := by
    rw [w64 (n := 8 + (size : Int)) (by omega), show (z : Int) * (8 + (size : Int)) = ((z * (8 + size) : Nat) : Int) by push_cast; rfl]
    generalize z * (8 + size) = q at hfit
    rw [w64 (n := (q : Int)) (by omega), w64 (by omega)]; omega
  rw [ew, show IntKind.i64.wrap (2 * ((2 * 2 ^ d - 1 : Nat) : Int)) = ((2 * (2 * 2 ^ d - 1) : Nat) : Int) by rw [w64 (by omega)]; omega]
  refine (New_spec (2 * (2 * 2 ^ d - 1)) (22 + z * (8 + size)) (by omega) (by omega) s9).mono ?_
  rintro _ s12 ⟨dv, rfl, n12⟩
  refine ⟨_, rfl, ?_⟩
  have l12 : s9.le s12 := by
    obtain ⟨J, _, hm⟩ := n12
    exact ⟨hm.leX.next, fun i hi => hm.leX.cells i hi fun h => h, fun i hi => hm.leX.maps i hi fun h => h, fun i hi => hm.leX.tok i hi fun h => h⟩
  have c12 := (l9.trans l12).getC c7
  refine ⟨_, ldvg c12 (by simp [hk]), ?_⟩
  refine (Blank_spec key _ hk (by omega) s12).mono ?_
  rintro _ s16 ⟨rfl, l16⟩
  refine ⟨_, rfl, ?_⟩
  intro K19 h19
  cases hbl : blankB key (22 + z * (8 + size)) with
  | true =>
    refine ⟨fun h => (by cases h), fun _ => h19 _ _ ⟨fun _ => ?_, fun h => (by cases h)⟩⟩
    rw [if_pos hbl]
    exact ⟨rfl, ((l7.trans l9).trans l12).trans l16⟩
  | false =>
    refine ⟨fun _ => h19 _ _ ⟨fun h => (by cases h), fun _ => ?_⟩, fun h => (by cases h)⟩
    refine ⟨_, ldvg (l16.getC c12) (by simp [hk]), ?_⟩
    refine (PNew_spec dv key 1 hk s16).mono ?_
    rintro _ s23 ⟨p, rfl, hP⟩
    refine ⟨_, rfl, ?_⟩
    refine (BNew_spec p 0 (2 * 2 ^ d - 1) (by omega) (by omega) s23).mono ?_
    rintro _ s26 ⟨b, rfl, hB⟩
    refine ⟨_, rfl, ?_⟩
    refine (Tape_spec tape c htl s26).mono ?_
    rintro _ s29 ⟨sr, rfl, hT⟩
    refine ⟨_, rfl, ?_⟩
    refine (OrNew_spec ⟨0, b, p, dv, sr, 0, 0⟩ ids d z size hi hs s29).mono ?_
    rintro _ s32 ⟨o, m, t, rfl, hO⟩
    refine ⟨_, rfl, ?_⟩
    rw [if_neg (by rw [hbl]; decide)]
    refine ⟨⟨o, b, p, dv, sr, m, t⟩, rfl, ?_⟩
    intro st0 I R n0
    have n9 := n0.le (l7.trans l9)
    have n13 := (now_frame0 n12 n9).le l16
    have n23 := hP _ _ _ n13
    have n23' : Now st0 I (PnA p dv (bk0 key d z size).pn * R) s23 := n23.perm (by unfold PnA; rw [sep_assoc]; rfl)
    have n26 := hB st0 I dv _ R n23'
    have n29 := hT _ _ _ n26
    have n30 : Now st0 I (BkA b p dv (bk0 key d z size) * (SrcA sr ⟨tape, 0⟩ * R)) s29 := n29.perm (by show SrcA sr ⟨tape, 0⟩ * (BkA b p dv (bk0 key d z size) * R) = _; ac_rfl)
    have n32 := hO st0 I _ _ R n30
    have os := osOk_new (d := d) (size := size) hi
    have hdr : DrOk (List.replicate ids (0, 0)) [] 0 := ⟨(fun i p hp => by rw [psGet_rep] at hp; cases hp), (fun i j p q hp => by rw [psGet_rep] at hp; cases hp), List.nodup_nil, fun a ha => nomatch ha⟩
    have inv : Inv (og0 d z size ids tape) ⟨d, z, size, bk0 key d z size, ⟨tape, 0⟩, List.replicate ids (0, 0), ⟨ids, size, []⟩, []⟩ fun _ => [] := by
      refine ⟨rfl, rfl, rfl, rfl, rfl, rfl, rfl, bkR_new hk hd hfit hbl, rfl, os, List.length_replicate, hdr, fun i => ?_, fun i => ?_⟩
      · show Option.map _ (look (allC d _) i) = none
        unfold allC
        dsimp only
        rw [allB_nil]; rfl
      · dsimp only
        rw [psGet_rep]; rfl
    exact Now.toEx (_, fun _ => []) (Now.toPand inv n32)
theorem OrSize {q : Oq} {g : Og} {st s : St} {I : Nat → Prop} {R : Asn} (h : Now st I (OrS q g * R) s) : ∃ x B c, Inv g x B ∧ Now st I (DkA q.dv x.bk.pn.dk * (cellA q.p (pnC q.dv x.bk.pn) * (cellA q.o (orC q x c) * ((ex fun rid => cellA q.b (bkC q.p x.bk rid) * cellA rid (Plc x.bk.l)) * (SrcA q.s x.src * (PsA q.m x.ps * (StaA q.t x.sta * (capA c * R)))))))) s := by
  obtain ⟨w, n1⟩ := h.ex
  obtain ⟨inv, n2⟩ := n1.pand
  obtain ⟨c, n3⟩ := orOpen n2
  obtain ⟨rid, n4⟩ := bkOpen (n3.perm (B := BkA q.b q.p q.dv w.1.bk * (cellA q.o (orC q w.1 c) * (SrcA q.s w.1.src * (PsA q.m w.1.ps * (StaA q.t w.1.sta * (capA c * R)))))) (by ac_rfl))
  refine ⟨w.1, w.2, c, inv, ?_⟩
  have n5 : Now st I ((ex fun rid => cellA q.b (bkC q.p w.1.bk rid) * cellA rid (Plc w.1.bk.l)) * (PnA q.p q.dv w.1.bk.pn * (cellA q.o (orC q w.1 c) * (SrcA q.s w.1.src * (PsA q.m w.1.ps * (StaA q.t w.1.sta * (capA c * R))))))) s :=
    Now.toEx rid (n4.perm (by ac_rfl))
  exact n5.perm (by unfold PnA; ac_rfl)
theorem OrBack {q : Oq} {g : Og} {st s : St} {I : Nat → Prop} {R : Asn} {x : Om} {B : Nat → List Cel} {c : Cap} (inv : Inv g x B)
    (h : Now st I (DkA q.dv x.bk.pn.dk * (cellA q.p (pnC q.dv x.bk.pn) * (cellA q.o (orC q x c) * ((ex fun rid => cellA q.b (bkC q.p x.bk rid) * cellA rid (Plc x.bk.l)) * (SrcA q.s x.src * (PsA q.m x.ps * (StaA q.t x.sta * (capA c * R)))))))) s) : Now st I (OrS q g * R) s := by
  obtain ⟨rid, n1⟩ := (h.perm (B := (ex fun rid => cellA q.b (bkC q.p x.bk rid) * cellA rid (Plc x.bk.l)) * (PnA q.p q.dv x.bk.pn * (cellA q.o (orC q x c) * (SrcA q.s x.src * (PsA q.m x.ps * (StaA q.t x.sta * (capA c * R))))))) (by unfold PnA; ac_rfl)).ex
  refine Now.toEx (x, B) (Now.toPand inv (orClose (c := c) ?_))
  have n2 := bkClose (x := x.bk) (rid := rid) (n1.perm (B := cellA q.b (bkC q.p x.bk rid) * (cellA rid (Plc x.bk.l) * (PnA q.p q.dv x.bk.pn * (cellA q.o (orC q x c) * (SrcA q.s x.src * (PsA q.m x.ps * (StaA q.t x.sta * (capA c * R)))))))) (by ac_rfl))
  exact n2.perm (by ac_rfl)
def trOf (t : List Ev) : List (Int × Int) := t.map fun e => (e.kind, e.at_.tdiv 2)
theorem OrTrace_spec {q : Oq} {g : Og} (gok : GOk g) : Does Tryz.prog F_disk_Disk_Trace [.ptr q.dv 0] (OrS q g) fun r => ex fun w : List Ev × Cap => pand (r = .ret (.lst 15 (Evs w.1) w.2) ∧ trOf w.1 = g.tr) (OrS q g) := by
  intro st I h
  obtain ⟨x, B, c, inv, n1⟩ := OrSize (Now.init h).emp
  have hm := gok.m
  have ht := inv.bk.trace
  refine (Trace_spec inv.bk.ev (by omega)).retEx n1 ?_
  intro c2 s n2
  exact (Now.toEx (x.bk.pn.dk.trace, c2) (Now.toPand ⟨rfl, inv.tr⟩ (OrBack inv n2))).unemp
end Go.Proofs.YtffenelcgjdbiaaGreatDoor
namespace Go.Proofs.YtffenelcgjdbiaaGreatDoor
open Go Go.Sim
set_option maxRecDepth 100000
structure Gk (g : Og) (k : Nat) : Prop where
  d : g.d ≤ 10
  z : g.z ≤ 16
  size : g.size ≤ 60000
  ids : g.ids ≤ 10000
  word : ∀ n ∈ g.tape, n < 2 ^ 32
  tape : g.tape.length ≤ 2 ^ 40
  m : g.m ≤ 64 * k
  used : g.used ≤ 2 * k
  shown : g.shown.length ≤ k
theorem Gk.ok {g : Og} {k : Nat} (h : Gk g k) (hk : k ≤ 2 ^ 30) : GOk g :=
  ⟨by have := h.d; omega, h.z, h.size, h.ids, by have := h.m; omega, by have := h.used; omega, h.word, h.tape, by have := h.shown; omega⟩
theorem Gk.acc {g : Og} {k : Nat} (h : Gk g k) (dat : Int → Option (List UInt8)) (id : Int) (leaf : Nat) : Gk (g.acc dat id leaf) (k + 1) := by
  refine ⟨h.d, h.z, h.size, h.ids, h.word, h.tape, ?_, ?_, ?_⟩
  · show g.m + 2 * (g.d + 1) ≤ _
    have := h.m; have := h.d; omega
  · show g.used + 2 ≤ _
    have := h.used; omega
  · show (g.shown ++ [_]).length ≤ _
    have := h.shown
    rw [List.length_append]; simpa using this
theorem Gk.chk {g : Og} {k : Nat} (h : Gk g k) : Gk { g with m := g.m + (2 * 2 ^ g.d - 1), tr := g.tr ++ evR (List.range (2 * 2 ^ g.d - 1)) } (k + 32) := by
  have hpow : 2 ^ g.d ≤ 2 ^ 10 := Nat.pow_le_pow_right (by decide) h.d
  refine ⟨h.d, h.z, h.size, h.ids, h.word, h.tape, ?_, ?_, ?_⟩
  · have := h.m; dsimp only; omega
  · have := h.used; dsimp only; omega
  · have := h.shown; dsimp only; omega
theorem Gk.new {d z size ids : Nat} {tape : List Nat} (hd : d ≤ 10) (hz : z ≤ 16) (hs : size ≤ 60000) (hi : ids ≤ 10000) (hw : ∀ n ∈ tape, n < 2 ^ 32) (ht : tape.length ≤ 2 ^ 40) (k : Nat) : Gk (og0 d z size ids tape) k :=
  ⟨hd, hz, hs, hi, hw, ht, Nat.zero_le _, Nat.zero_le _, Nat.zero_le _⟩
theorem ev_kind (e : Ev) : fldV (e.cells.drop 0) 0 1 false = some (.int .i64 e.kind) := by
  unfold fldV
  rw [if_pos (by simp [Ev.cells])]; rfl
theorem Evs_get {t : List Ev} {k : Nat} {e : Ev} (h : t[k]? = some e) : (Evs t)[k]? = some (.agg e.cells) := by
  unfold Evs
  rw [List.getElem?_map, h]; rfl
theorem tr_get {t : List Ev} {k : Nat} {a b : Int} (h : (trOf t)[k]? = some (a, b)) : ∃ e, t[k]? = some e ∧ e.kind = a ∧ e.at_.tdiv 2 = b := by
  unfold trOf at h
  rw [List.getElem?_map] at h
  cases he : t[k]? with
  | none => rw [he] at h; cases h
  | some e => rw [he] at h; cases h; exact ⟨e, rfl, rfl, rfl⟩
def wayT (d leaf : Nat) : List (Int × Int) := evR (onL d leaf) ++ evW (onL d leaf).reverse
theorem wayT_length (d leaf : Nat) : (wayT d leaf).length = 2 * (d + 1) := by simp [wayT, evR, evW]; omega
theorem wayT_R {d leaf i : Nat} (h : i < d + 1) : (wayT d leaf)[i]? = some (1, ((onL d leaf)[i]'(by rw [onL_len]; exact h) : Int)) := by
  have h' : i < (onL d leaf).length := by rw [onL_len]; exact h
  unfold wayT
  rw [List.getElem?_append_left (by simp [evR]; exact h), evR, List.getElem?_map, List.getElem?_eq_getElem h']; rfl
theorem wayT_W {d leaf i : Nat} (h : i < d + 1) : (wayT d leaf)[2 * (d + 1) - 1 - i]? = some (2, ((onL d leaf)[i]'(by rw [onL_len]; exact h) : Int)) := by
  have h' : i < (onL d leaf).length := by rw [onL_len]; exact h
  have e : (evR (onL d leaf)).length = d + 1 := by simp [evR]
  unfold wayT
  have e2 : (onL d leaf).length - 1 - (2 * (d + 1) - 1 - i - (d + 1)) = i := by rw [onL_len]; omega
  rw [List.getElem?_append_right (by omega), e, evW, List.getElem?_map, List.getElem?_reverse (by rw [onL_len]; omega), e2, List.getElem?_eq_getElem h']; rfl
theorem OrCheck_spec {q : Oq} {g : Og} (gok : GOk g) :
    Does Tryz.prog F_oram_Oram_Check [.ptr q.o 0] (OrS q g) fun r => pand (r = .ret (.bool true)) (OrS q { g with m := g.m + (2 * 2 ^ g.d - 1), tr := g.tr ++ evR (List.range (2 * 2 ^ g.d - 1)) }) := by
  intro st I h
  obtain ⟨⟨x, B⟩, n1⟩ := (Now.init h).emp.ex
  obtain ⟨inv, n2⟩ := n1.pand
  obtain ⟨h1, h2, h3, h4, h5, h6, h7, h8, h9, h10, h11, h12, h13, h14⟩ := inv
  dsimp only at h1 h2 h3 h4 h5 h6 h7 h8 h9 h10 h11 h12 h13 h14 n2
  have so : StaOk x.sta := by
    have := staOk_of h10 h11 gok.ids gok.size
    rw [← h5, ← h6] at this
    exact this
  have hm := gok.m
  refine (Check_spec (m := g.m) (n := 2 * 2 ^ g.d - 1) (B := B) (by rw [h1]) (by rw [h1]; exact gok.d) (by rw [h2]; exact gok.z) (by rw [h2, h3]; exact h8) (by omega) (by rw [h1, h3]; exact h10) so (by rw [h6, h3])).call n2 ?_
  intro r s n3
  obtain ⟨bk, n4⟩ := n3.ex
  obtain ⟨⟨rfl, hb, ht⟩, n5⟩ := n4.pand
  rw [h2, h3] at hb
  refine (Now.toPand rfl (Now.toEx (_, B) (Now.toPand ?_ n5))).unemp
  exact ⟨h1, h2, h3, h4, h5, h6, h7, hb, by show bk.tr = g.tr ++ _; rw [ht, h9], h10, h11, h12, h13, h14⟩
theorem bl1 : blankB (List.replicate 32 0) (22 + 2 * (8 + 4)) = false := by decide +kernel
def abcd : List UInt8 := [97, 98, 99, 100]
theorem U64s_get {l : List Nat} {k n : Nat} (h : l[k]? = some n) : (U64s l)[k]? = some (.int .u64 n) := by unfold U64s; rw [List.getElem?_map, h]; rfl
theorem awake_spec (st : St) : RCall Tryz.prog F_law17_awake [] st fun r _ => r = .ret (.bool true) := by
  refine w_law17_awake ?_
  have hM := Made_spec (List.replicate 32 0) [0, 3, 1, 2] .exact 2 2 4 3 (by simp) (by decide) (by decide) (by decide) (by decide) (by decide) (by decide) st
  rw [← By_rep] at hM
  refine hM.mono ?_
  intro r s2 hr
  rw [if_neg (by rw [bl1]; decide)] at hr
  obtain ⟨q, rfl, hN⟩ := hr
  have n2 := hN st (fun _ => False) emp (Now.init rfl)
  refine ⟨_, _, _, rfl, ?_⟩
  have gk0 : Gk (og0 2 2 4 3 [0, 3, 1, 2]) 0 := Gk.new (by decide) (by decide) (by decide) (by decide) (by decide) (by decide) 0
  refine (OrTrace_spec (gk0.ok (by decide))).call n2 ?_
  intro r6 s7 n7a
  obtain ⟨⟨t0, ct0⟩, n7b⟩ := n7a.ex
  obtain ⟨⟨rfl, ht0⟩, n7⟩ := n7b.pand
  dsimp only at ht0 n7 ⊢
  have ht00 : t0 = [] := by
    have : trOf t0 = [] := ht0
    unfold trOf at this
    exact List.map_eq_nil_iff.1 this
  subst ht00
  refine ⟨_, _, rfl, ?_⟩
  refine (OrWrite_spec (gk0.ok (by decide)) 2 abcd .exact).call n7 ?_
  intro r9 s10 n10a
  obtain ⟨leaf1, n10b⟩ := n10a.ex
  obtain ⟨⟨rfl, hleaf1⟩, n10⟩ := n10b.pand
  have gk1 := gk0.acc ((og0 2 2 4 3 [0, 3, 1, 2]).putD 2 abcd) 2 leaf1
  refine ⟨_, rfl, ?_⟩
  refine (OrTrace_spec (gk1.ok (by decide))).call n10 ?_
  intro r12 s13 n13a
  obtain ⟨⟨t1, ct1⟩, n13b⟩ := n13a.ex
  obtain ⟨⟨rfl, ht1⟩, n13⟩ := n13b.pand
  dsimp only at ht1 n13 ⊢
  have ht1 : trOf t1 = wayT 2 leaf1 := ht1
  have hl1 : (Evs t1).length = 6 := by
    have := congrArg List.length ht1
    rw [wayT_length] at this
    unfold trOf at this
    rw [List.length_map] at this
    unfold Evs
    rw [List.length_map, this]
  obtain ⟨e0, he0, k0, _⟩ := tr_get (t := t1) (by rw [ht1]; exact wayT_R (show 0 < 2 + 1 by decide))
  obtain ⟨e3, he3, k3, _⟩ := tr_get (t := t1) (by rw [ht1]; exact wayT_W (show 2 < 2 + 1 by decide))
  refine ⟨_, _, rfl, ?_⟩
  refine (OrRead_spec (gk1.ok (by decide)) 2).call n13 ?_
  intro r15 s16 n16a
  obtain ⟨⟨leaf2, c17⟩, n16b⟩ := n16a.ex
  obtain ⟨⟨rfl, hleaf2⟩, n16⟩ := n16b.pand
  have gk2 := gk1.acc (((og0 2 2 4 3 [0, 3, 1, 2]).acc ((og0 2 2 4 3 [0, 3, 1, 2]).putD 2 abcd) 2 leaf1).dat) 2 leaf2
  dsimp only at n16 ⊢
  refine ⟨_, _, _, rfl, ?_⟩
  refine (OrShown_spec (gk2.ok (by decide))).call n16 ?_
  intro r19 s20 n20a
  obtain ⟨c21, n20b⟩ := n20a.ex
  obtain ⟨rfl, n20⟩ := n20b.pand
  refine ⟨_, _, rfl, ?_⟩
  intro K23 h23
  rw [show (og0 2 2 4 3 [0, 3, 1, 2]).may 2 abcd = true by decide]
  refine ⟨fun _ => ?_, fun h => (by cases h)⟩
  rw [hl1, show (Evs []).length = 0 from rfl]
  refine h23 _ _ ?_
  intro K29 h29
  refine ⟨fun _ => ⟨0, rfl, _, Evs_get he0, Nat.zero_le _, _, ev_kind e0, ?_⟩, fun h => absurd h (by decide)⟩
  rw [k0]
  refine h29 _ _ ?_
  intro K35 h35
  refine ⟨fun _ => ⟨3, rfl, _, Evs_get he3, Nat.zero_le _, _, ev_kind e3, ?_⟩, fun h => (by cases h)⟩
  rw [k3]
  refine h35 _ _ ?_
  intro K38 h38
  refine ⟨fun _ => h38 _ _ ?_, fun h => (by cases h)⟩
  intro K42 h42
  refine ⟨fun _ => ⟨abcd, strOf_By abcd, h42 _ _ ?_⟩, fun h => (by cases h)⟩
  intro K45 h45
  refine ⟨fun _ => h45 _ _ ?_, fun h => absurd h (by decide)⟩
  intro K50 h50
  refine ⟨fun _ => ⟨0, rfl, _, U64s_get (n := 0) rfl, h50 _ _ ?_⟩, fun h => absurd h (by simp [U64s, Og.acc, og0])⟩
  intro K55 h55
  refine ⟨fun _ => ⟨1, rfl, _, U64s_get (n := 1) rfl, h55 _ _ ?_⟩, fun h => (by cases h)⟩
  intro K61 h61
  refine ⟨fun _ => ?_, fun h => (by cases h)⟩
  refine (OrCheck_spec (gk2.ok (by decide))).ret n20 ?_
  intro s58 n58
  refine ⟨_, rfl, h61 _ _ ?_⟩
  intro K67 h67
  refine ⟨fun _ => ?_, fun h => (by cases h)⟩
  have gk3 := gk2.chk
  refine (OrWrite_spec (gk3.ok (by decide)) 4 abcd .exact).call n58 ?_
  intro r63 s64 n64a
  obtain ⟨leaf3, n64b⟩ := n64a.ex
  obtain ⟨⟨rfl, hleaf3⟩, n64⟩ := n64b.pand
  refine ⟨_, rfl, h67 _ _ ?_⟩
  intro K73 h73
  refine ⟨fun _ => ?_, fun h => absurd h (by simp [Og.may, Og.acc, og0])⟩
  refine (OrWrite_spec ((gk3.acc _ 4 leaf3).ok (by decide)) 1 [] .nil).call n64 ?_
  intro r69 s70 n70a
  obtain ⟨leaf4, n70b⟩ := n70a.ex
  obtain ⟨⟨rfl, hleaf4⟩, n70⟩ := n70b.pand
  refine ⟨_, rfl, h73 _ _ ?_⟩
  rfl
end Go.Proofs.YtffenelcgjdbiaaGreatDoor
namespace Go.Proofs.YtffenelcgjdbiaaGreatDoor
open Go Go.Sim
set_option maxRecDepth 100000
theorem iand_le (a : Int) (m : Nat) (hm : m < 2 ^ 62) : ∃ k : Nat, k ≤ m ∧ iand .i64 a m = k := by
  refine ⟨(BitVec.ofInt 64 a &&& BitVec.ofInt 64 m).toNat, ?_, ?_⟩
  · rw [BitVec.toNat_and]
    refine Nat.le_trans Nat.and_le_right ?_
    rw [BitVec.toNat_ofInt]; omega
  · have : (BitVec.ofInt 64 a &&& BitVec.ofInt 64 m).toNat ≤ m := by
      rw [BitVec.toNat_and]
      refine Nat.le_trans Nat.and_le_right ?_
      rw [BitVec.toNat_ofInt]; omega
    show IntKind.i64.wrap (((BitVec.ofInt 64 a &&& BitVec.ofInt 64 m).toNat : Nat) : Int) = _
    rw [w64 (by omega)]
def Dr (q : Oq) (N cnt : Nat) (st : St) (dat : Int → Option (List UInt8)) (s : St) : Prop :=
  ∃ g : Og, Gk g cnt ∧ g.size = 1 ∧ g.ids = N ∧ g.dat = dat ∧ Now st (fun _ => False) (OrS q g * emp) s
theorem Dr.write {q : Oq} {N cnt : Nat} {st s : St} {dat dat' : Int → Option (List UInt8)} (h : Dr q N cnt st dat s) (hc : cnt ≤ 2 ^ 30) {id : Int} (hid : 1 ≤ id ∧ id ≤ N) {b : UInt8} {c : Cap} {K : Res → St → Prop}
    (hd : dat' = fun i => if i = id then some [b] else dat i) (k : ∀ s', Dr q N (cnt + 1) st dat' s' → K (.ret (.bool true)) s') : RCall Tryz.prog F_oram_Oram_Write [.ptr q.o 0, .int .i64 id, .lst 1 (By [b]) c] s K := by
  obtain ⟨g, gk, hz, hi, rfl, n⟩ := h
  refine (OrWrite_spec (gk.ok hc) id [b] c).call n ?_
  intro r s' n1
  obtain ⟨leaf, n2⟩ := n1.ex
  obtain ⟨⟨rfl, hl⟩, n3⟩ := n2.pand
  have hm : g.may id [b] = true := by unfold Og.may; rw [decide_eq_true_eq, hi, hz]; exact ⟨hid.1, hid.2, rfl⟩
  rw [hm]
  refine k s' ⟨_, gk.acc _ id leaf, hz, hi, ?_, n3⟩
  show g.putD id [b] = dat'
  rw [hd, Og.putD, hm]; rfl
theorem Dr.drop {q : Oq} {N cnt : Nat} {st s : St} {dat dat' : Int → Option (List UInt8)} (h : Dr q N cnt st dat s) (hc : cnt ≤ 2 ^ 30) (id : Int) {K : Res → St → Prop}
    (hd : dat' = fun i => if i = id then none else dat i) (k : ∀ s', Dr q N (cnt + 1) st dat' s' → K (.ret (.bool (dat id).isSome)) s') : RCall Tryz.prog F_oram_Oram_Drop [.ptr q.o 0, .int .i64 id] s K := by
  obtain ⟨g, gk, hz, hi, rfl, n⟩ := h
  refine (OrDrop_spec (gk.ok hc) id).call n ?_
  intro r s' n1
  obtain ⟨leaf, n2⟩ := n1.ex
  obtain ⟨⟨rfl, hl⟩, n3⟩ := n2.pand
  exact k s' ⟨_, gk.acc _ id leaf, hz, hi, by rw [hd]; rfl, n3⟩
theorem Dr.read {q : Oq} {N cnt : Nat} {st s : St} {dat : Int → Option (List UInt8)} (h : Dr q N cnt st dat s) (hc : cnt ≤ 2 ^ 30) (id : Int) {K : Res → St → Prop}
    (k : ∀ c s', Dr q N (cnt + 1) st dat s' → K (retO (dat id) c) s') : RCall Tryz.prog F_oram_Oram_Read [.ptr q.o 0, .int .i64 id] s K := by
  obtain ⟨g, gk, hz, hi, rfl, n⟩ := h
  refine (OrRead_spec (gk.ok hc) id).call n ?_
  intro r s' n1
  obtain ⟨⟨leaf, c⟩, n2⟩ := n1.ex
  obtain ⟨⟨rfl, hl⟩, n3⟩ := n2.pand
  exact k c s' ⟨_, gk.acc _ id leaf, hz, hi, rfl, n3⟩
theorem os_none {d size : Nat} {y : Os} (h : OsOk d size y) (hn : ∀ i, getO d y i = none) : y.l = [] ∧ y.ps = List.replicate y.ps.length (0, 0) := by
  have ha : allC d y = [] := by
    rw [List.eq_nil_iff_forall_not_mem]
    intro c hc
    exact look_none (hn c.id) c hc rfl
  refine ⟨(List.append_eq_nil_iff.1 ha).1, ?_⟩
  rw [List.eq_replicate_iff]
  refine ⟨rfl, fun p hp => ?_⟩
  obtain ⟨k, hk, rfl⟩ := List.mem_iff_getElem.1 hp
  have hz : y.ps[k].1 = 0 := by
    by_cases h0 : y.ps[k].1 = 0
    · exact h0
    · exfalso
      have hat : psAt y.ps ((k : Int) + 1) = y.ps[k] := by simp [psAt, hk]
      have hg : psGet y.ps ((k : Int) + 1) = some (y.ps[k].1 - 1, y.ps[k].2) := by
        unfold psGet
        rw [hat, if_pos ⟨by unfold psHas; rw [decide_eq_true_eq]; omega, h0⟩]
      obtain ⟨c, hc, _⟩ := h.there _ _ hg
      rw [ha] at hc; cases hc
  have := h.full.none _ (List.getElem_mem hk) hz
  exact Prod.ext hz this
def noneState (ids size : Nat) : List UInt8 := psState (List.replicate ids (0, 0)) ++ stL ids size []
theorem OrStateNone_spec {q : Oq} {g : Og} (gok : GOk g) (hn : ∀ i, g.dat i = none) : Does Tryz.prog F_oram_Oram_State [.ptr q.o 0] (OrS q g) fun r => ex fun c => pand (r = .ret (.lst 1 (By (noneState g.ids g.size)) c)) (OrS q g) := by
  intro st I h
  obtain ⟨⟨x, B⟩, n1⟩ := (Now.init h).emp.ex
  obtain ⟨inv, n2⟩ := n1.pand
  dsimp only at inv n2
  have so : StaOk x.sta := by
    have := staOk_of inv.os inv.long gok.ids gok.size
    rw [← inv.most, ← inv.ssz] at this
    exact this
  refine (OrState_spec inv.os.full.ok so inv.os.uid.left).retEx n2 ?_
  intro c s n3
  obtain ⟨h1, h2⟩ := os_none inv.os fun i => by
    have := inv.dat i
    rw [hn i] at this
    exact Option.map_eq_none_iff.1 this
  dsimp only at h1 h2
  have e : stateL x = noneState g.ids g.size := by
    unfold stateL noneState
    have e0 : srtL [] = [] := List.eq_nil_of_length_eq_zero (srtL_length [])
    rw [h1, inv.most, inv.ssz, ← inv.long, ← h2, e0]
  rw [e]
  exact (Now.toEx c (Now.toPand rfl (Now.toEx (x, B) (Now.toPand inv n3)))).unemp
theorem bl2 : blankB (10 :: List.replicate 31 0) (22 + 2 * (8 + 1)) = false := by decide +kernel
def gbI (gone : Int) (k : Int) : Int := iand .i64 (Int.fdiv gone (2 ^ (min (Int.toNat (IntKind.u64.wrap k)) 64))) 1
theorem gbI_01 (gone k : Int) : gbI gone k = 0 ∨ gbI gone k = 1 := by
  obtain ⟨m, h1, h2⟩ := iand_le (Int.fdiv gone (2 ^ (min (Int.toNat (IntKind.u64.wrap k)) 64))) 1 (by decide)
  have : gbI gone k = m := h2
  omega
def dat1 (k : Nat) : Int → Option (List UInt8) := fun j => if 1 ≤ j ∧ j < k then some [UInt8.ofNat j.toNat] else none
def dat2 (gone : Int) (N k : Nat) : Int → Option (List UInt8) := fun j => if 1 ≤ j ∧ j ≤ N ∧ ¬ (j < k ∧ gbI gone j = 1) then some [UInt8.ofNat j.toNat] else none
def dat4 (gone : Int) (N k : Nat) : Int → Option (List UInt8) := fun j => if 1 ≤ j ∧ j < k then none else dat2 gone N (N + 1) j
theorem u64_nonneg (k : Nat) : (0 : Int) ≤ IntKind.u64.wrap (k : Int) := by
  rw [wrap_u64_mod]; exact Int.emod_nonneg _ (by decide)
theorem OramDrops_spec (tape : List Nat) (hw : ∀ n ∈ tape, n < 2 ^ 32) (c : Cap) (n gone : Int) (st : St) :
    RCall Tryz.prog F_law17_OramDrops [.lst 1 (U32s tape) c, .int .i64 n, .int .i64 gone] st fun r _ => r = .ret (.bool true) := by
  refine w_law17_OramDrops ?_
  rw [show (U32s tape).length = tape.length by simp [U32s]]
  refine br (fun _ => ?_) fun hle => ?_
  · refine (awake_spec st).mono ?_
    rintro _ s rfl
    exact ⟨_, rfl, rfl⟩
  obtain ⟨m, hm, em⟩ := iand_le n 7 (by decide)
  have em : iand .i64 n 7 = m := em
  rw [em, show IntKind.i64.wrap ((m : Int) + 1) = ((m + 1 : Nat) : Int) by rw [w64 (by omega)]; omega]
  generalize hN : m + 1 = N
  have hN1 : 1 ≤ N ∧ N ≤ 8 := by omega
  have hkey : ([V.int .u8 10] ++ List.replicate 31 (V.int .u8 0)) = By (10 :: List.replicate 31 0) := by rw [By_rep]; rfl
  rw [hkey]
  have made : ∀ (tp : List Nat) (cp : Cap) (s : St), tp.length ≤ 300 → RCall Tryz.prog F_law17_Made [.agg (By (10 :: List.replicate 31 0)), .lst 1 (U32s tp) cp, .int .i64 N, .int .i64 4, .int .i64 2, .int .i64 1] s fun r s' =>
      ∃ q : Oq, r = .ret (.tup [.ptr q.o 0, .ptr q.b 0, .ptr q.dv 0]) ∧ ∀ st0 I R, Now st0 I R s → Now st0 I (OrS q (og0 2 2 1 N tp) * R) s' := fun tp cp s htp => by
    refine (Made_spec (10 :: List.replicate 31 0) tp cp 2 2 1 N (by simp) (by omega) (by decide) (by decide) (by decide) (by omega) (by decide) s).mono ?_
    intro r s' hr
    rwa [if_neg (by rw [bl2]; decide)] at hr
  refine (made tape c st (by omega)).mono ?_
  rintro _ s8 ⟨q, rfl, hM⟩
  refine ⟨_, _, _, rfl, ?_⟩
  have d8 : Dr q N 0 st (dat1 1) s8 := ⟨_, Gk.new (by decide) (by decide) (by decide) (by omega) hw (by omega) 0, rfl, rfl, by
    funext j; unfold dat1; rw [if_neg (by omega)]; rfl, hM st (fun _ => False) emp (Now.init rfl)⟩
  refine ⟨fun t i s => ∃ k : Nat, i = k ∧ 1 ≤ k ∧ k ≤ N + 1 ∧ t = N + 1 - k ∧ Dr q N (k - 1) st (dat1 k) s, ⟨N, 1, rfl, by omega, by omega, rfl, d8⟩, ?_⟩
  rintro _ _ s15 ⟨k, rfl, hk1, hk2, rfl, d15⟩
  refine br (fun hlt => ?_) fun hge => ?_
  · rw [wrap_u8_of, By_one]
    refine d15.write (dat' := dat1 (k + 1)) (by omega) (by omega) ?_ ?_
    · funext j
      unfold dat1
      by_cases hj : j = k
      · subst hj; rw [if_pos rfl, if_pos (by omega)]; rfl
      · rw [if_neg hj]
        by_cases h : 1 ≤ j ∧ j < k
        · rw [if_pos h, if_pos (by omega)]
        · rw [if_neg h, if_neg (by omega)]
    · intro s17 d17
      rw [show k - 1 + 1 = k + 1 - 1 by omega] at d17
      exact ⟨_, rfl, fun h => (by cases h), fun _ => ⟨N + 1 - (k + 1), by omega, k + 1, by rw [w64 (by omega)]; omega, by omega, by omega, rfl, d17⟩⟩
  have hkN : k = N + 1 := by omega
  subst hkN
  have e12 : dat1 (N + 1) = dat2 gone N 1 := by
    funext j
    unfold dat1 dat2
    by_cases h : 1 ≤ j ∧ j < ((N + 1 : Nat) : Int)
    · rw [if_pos h, if_pos (by omega)]
    · rw [if_neg h, if_neg (by omega)]
  rw [e12] at d15
  refine ⟨fun t i s => ∃ k : Nat, i = k ∧ 1 ≤ k ∧ k ≤ N + 1 ∧ t = N + 1 - k ∧ ∃ cnt, cnt ≤ N + 2 * k ∧ Dr q N cnt st (dat2 gone N k) s, ⟨N, 1, rfl, by omega, by omega, rfl, _, by omega, d15⟩, ?_⟩
  rintro _ _ s23 ⟨k, rfl, hk1, hk2, rfl, cnt, hcnt, d23⟩
  refine br (fun hlt => ?_) fun hge => ?_
  · refine ⟨u64_nonneg k, ?_⟩
    intro K31 h31
    show ((gbI gone k == 1) = true → _) ∧ ((gbI gone k == 1) = false → _)
    refine breq (fun hb => ?_) fun hb => ?_
    · refine d23.drop (by omega) k rfl ?_
      intro s25 d25
      have e1 : (dat2 gone N k k).isSome = true := by unfold dat2; rw [if_pos (by omega)]; rfl
      rw [e1]
      refine ⟨_, rfl, fun _ => ?_, fun h => (by cases h)⟩
      refine d25.drop (dat' := dat2 gone N (k + 1)) (by omega) k ?_ ?_
      · funext j
        unfold dat2
        by_cases hj : j = k
        · subst hj; rw [if_pos rfl, if_neg]; rintro ⟨_, _, h⟩; exact h ⟨by omega, hb⟩
        · simp only [if_neg hj]
          by_cases h : 1 ≤ j ∧ j ≤ (N : Int) ∧ ¬ (j < k ∧ gbI gone j = 1)
          · rw [if_pos h, if_pos ⟨h.1, h.2.1, fun h2 => h.2.2 ⟨by omega, h2.2⟩⟩]
          · rw [if_neg h, if_neg fun h2 => h ⟨h2.1, h2.2.1, fun h3 => h2.2.2 ⟨by omega, h3.2⟩⟩]
      · intro s28 d28
        rw [if_pos rfl]
        exact ⟨_, rfl, h31 _ _ ⟨fun h => (by cases h), fun _ => ⟨N + 1 - (k + 1), by omega, k + 1, by rw [w64 (by omega)]; omega, by omega, by omega, rfl, _, by omega, d28⟩⟩⟩
    · have e1 : dat2 gone N k = dat2 gone N (k + 1) := by
        funext j
        unfold dat2
        by_cases hj : j = k
        · subst hj
          by_cases h : 1 ≤ (k : Int) ∧ (k : Int) ≤ N
          · rw [if_pos ⟨h.1, h.2, fun h2 => by omega⟩, if_pos ⟨h.1, h.2, fun h2 => hb h2.2⟩]
          · rw [if_neg fun h2 => h ⟨h2.1, h2.2.1⟩, if_neg fun h2 => h ⟨h2.1, h2.2.1⟩]
        · by_cases h : 1 ≤ j ∧ j ≤ (N : Int) ∧ ¬ (j < k ∧ gbI gone j = 1)
          · rw [if_pos h, if_pos ⟨h.1, h.2.1, fun h2 => h.2.2 ⟨by omega, h2.2⟩⟩]
          · rw [if_neg h, if_neg fun h2 => h ⟨h2.1, h2.2.1, fun h3 => h2.2.2 ⟨by omega, h3.2⟩⟩]
      rw [e1] at d23
      exact h31 _ _ ⟨fun h => (by cases h), fun _ => ⟨N + 1 - (k + 1), by omega, k + 1, by rw [w64 (by omega)]; omega, by omega, by omega, rfl, _, by omega, d23⟩⟩
  have hkN : k = N + 1 := by omega
  subst hkN
  refine ⟨fun t i s => ∃ k : Nat, i = k ∧ 1 ≤ k ∧ k ≤ N + 1 ∧ t = N + 1 - k ∧ ∃ cnt, cnt ≤ 100 + k ∧ Dr q N cnt st (dat2 gone N (N + 1)) s, ⟨N, 1, rfl, by omega, by omega, rfl, _, by omega, d23⟩, ?_⟩
  rintro _ _ s37 ⟨k, rfl, hk1, hk2, rfl, cnt3, hcnt3, d37⟩
  refine br (fun hlt => ?_) fun hge => ?_
  · refine d37.read (by omega) k ?_
    intro c39 s39 d39
    refine ⟨_, _, _, rfl, u64_nonneg k, ?_⟩
    intro K45 h45
    have nxt : K45 false s39 := h45 _ _ ⟨fun h => (by cases h), fun _ => ⟨N + 1 - (k + 1), by omega, k + 1, by rw [w64 (by omega)]; omega, by omega, by omega, rfl, _, by omega, d39⟩⟩
    show (((dat2 gone N (N + 1) k).isSome != (gbI gone k == 0)) = false → _) ∧ (((dat2 gone N (N + 1) k).isSome != (gbI gone k == 0)) = true → _)
    rcases gbI_01 gone k with hb | hb
    · have e1 : dat2 gone N (N + 1) k = some [UInt8.ofNat k] := by
        unfold dat2
        rw [if_pos ⟨by omega, by omega, fun h => by omega⟩]; rfl
      rw [e1, hb]
      refine ⟨fun _ => ⟨fun _ => ⟨fun _ => ⟨0, rfl, _, rfl, ?_⟩, fun h => absurd h (by simp)⟩, fun h => (by cases h)⟩, fun h => absurd h (by simp)⟩
      rw [wrap_u8_of, show ((((UInt8.ofNat k).toNat : Nat) : Int) != ((UInt8.ofNat k).toNat : Int)) = false by simp]
      exact nxt
    · have e1 : dat2 gone N (N + 1) k = none := by
        unfold dat2
        rw [if_neg fun h => h.2.2 ⟨by omega, hb⟩]
      rw [e1, hb]
      exact ⟨fun _ => ⟨fun h => (by cases h), fun _ => nxt⟩, fun h => absurd h (by decide)⟩
  obtain ⟨g, gk, hz, hi, hdat, n37⟩ := d37
  refine (OrCheck_spec (gk.ok (by omega))).ret n37 ?_
  intro s49 n49
  have d49 : Dr q N (cnt3 + 32) st (dat4 gone N 1) s49 := ⟨_, gk.chk, hz, hi, by
    dsimp only
    rw [hdat]
    funext j
    unfold dat4
    rw [if_neg (by omega)], n49⟩
  refine ⟨_, rfl, fun h => (by cases h), fun _ => ?_⟩
  refine ⟨fun t i s => ∃ k : Nat, i = k ∧ 1 ≤ k ∧ k ≤ N + 1 ∧ t = N + 1 - k ∧ ∃ cnt, cnt ≤ 200 + 3 * k ∧ Dr q N cnt st (dat4 gone N k) s, ⟨N, 1, rfl, by omega, by omega, rfl, _, by omega, d49⟩, ?_⟩
  rintro _ _ s54 ⟨k4, rfl, hk41, hk42, rfl, cnt4, hcnt4, d54⟩
  refine br (fun hlt => ?_) fun hge => ?_
  · refine d54.write (b := 9) (by omega) (by omega) rfl ?_
    intro s56 d56
    refine ⟨_, rfl, fun h => (by cases h), fun _ => ?_⟩
    refine d56.read (by omega) k4 ?_
    intro c60 s59 d59
    rw [if_pos rfl]
    refine ⟨_, _, _, rfl, ?_⟩
    intro K63 h63
    refine ⟨fun _ => h63 _ _ ?_, fun h => absurd h (by decide)⟩
    intro K68 h68
    refine ⟨fun _ => ⟨0, rfl, _, rfl, h68 _ _ ?_⟩, fun h => absurd h (by decide)⟩
    intro K74 h74
    refine ⟨fun _ => ?_, fun h => absurd h (by decide)⟩
    refine d59.drop (dat' := dat4 gone N (k4 + 1)) (by omega) k4 ?_ ?_
    · funext j
      unfold dat4
      by_cases hj : j = k4
      · subst hj; rw [if_pos rfl, if_pos (by omega)]
      · rw [if_neg hj, if_neg hj]
        by_cases h : 1 ≤ j ∧ j < (k4 : Int)
        · rw [if_pos h, if_pos (by omega)]
        · rw [if_neg h, if_neg (by omega)]
    · intro s71 d71
      rw [if_pos rfl]
      exact ⟨_, rfl, h74 _ _ ⟨fun h => (by cases h), fun _ => ⟨N + 1 - (k4 + 1), by omega, k4 + 1, by rw [w64 (by omega)]; omega, by omega, by omega, rfl, _, by omega, d71⟩⟩⟩
  have hkN : k4 = N + 1 := by omega
  subst hkN
  obtain ⟨g4, gk4, hz4, hi4, hdat4, n54⟩ := d54
  refine (made [] .nil s54 (by decide)).mono ?_
  rintro _ s78 ⟨q2, rfl, hM2⟩
  have n78 := hM2 _ _ _ n54
  refine ⟨_, _, _, rfl, ?_⟩
  have hnone : ∀ i, g4.dat i = none := fun i => by
    rw [hdat4]
    unfold dat4 dat2
    by_cases h : 1 ≤ i ∧ i < ((N + 1 : Nat) : Int)
    · rw [if_pos h]
    · rw [if_neg h, if_neg (by omega)]
  refine (OrStateNone_spec (gk4.ok (by omega)) hnone).retEx (n78.perm (B := OrS q g4 * (OrS q2 (og0 2 2 1 N []) * emp)) (by ac_rfl)) ?_
  intro c84 s83 n83
  refine ⟨_, _, rfl, noneState g4.ids g4.size, strOf_By _, ?_⟩
  have gk5 : Gk (og0 2 2 1 N []) 0 := Gk.new (by decide) (by decide) (by decide) (by omega) (by decide) (by decide) 0
  refine (OrStateNone_spec (gk5.ok (by decide)) fun _ => rfl).retEx (n83.perm (B := OrS q2 (og0 2 2 1 N []) * (OrS q g4 * emp)) (by ac_rfl)) ?_
  intro c88 s87 n87
  refine ⟨_, _, rfl, strOf_By _, noneState N 1, strOf_By _, ?_⟩
  rw [hz4, hi4]
  intro K94 h94
  refine ⟨fun _ => ?_, fun h => (by simp at h)⟩
  refine (OrCheck_spec (gk4.ok (by omega))).ret (n87.perm (B := OrS q g4 * (OrS q2 (og0 2 2 1 N []) * emp)) (by ac_rfl)) ?_
  intro s91 n91
  refine ⟨_, rfl, h94 _ _ ?_⟩
  intro K100 h100
  refine ⟨fun _ => ?_, fun h => (by cases h)⟩
  refine (awake_spec s91).mono ?_
  rintro _ s97 rfl
  exact ⟨_, rfl, h100 _ _ rfl⟩
end Go.Proofs.YtffenelcgjdbiaaGreatDoor
namespace Go.Proofs.YtffenelcgjdbiaaGreatDoor
open Go Go.Sim Go.ChangeShapes Go.WideShapes Go.ChangeAt Go.WideMaps Go.WideElems Go.RowKit
set_option maxRecDepth 100000
def st0 : St := ⟨0, fun _ => none, fun _ => none, fun _ => false, fun _ _ => ⟨rfl, rfl, rfl⟩⟩
def gW (W : World) : G := ⟨W.heap.size, fun _ => none, fun _ => none, fun b o => W.cell? ⟨b, o, none⟩⟩
def TabMet (W : World) : Prop := ∀ (j : Nat) n, tab64[j]? = some n → W.cell? ⟨1, j, none⟩ = some (.int .u8 (n : Int))
theorem tabs_prog : tabs Tryz.prog = [(1, tab64.map fun (n : Nat) => Value.int .u8 (n : Int))] := by
  have h : Tryz.prog.globals.toList.findIdx? (fun gl => gl.name == "math/bits.deBruijn64tab") = some 1 := by kernel_rfl
  unfold tabs
  rw [h]
theorem wrel0 {W : World} (h : TabMet W) : WRel (mkEnv Tryz.prog W.heap.size) (gW W) st0 W where
  base := Nat.le_refl _
  fresh0 _ _ := ⟨rfl, rfl⟩
  blkO _ _ e := nomatch e
  blkT _ _ e := nomatch e
  inj _ _ _ _ _ e := nomatch e
  objTok _ _ _ _ _ _ e := nomatch e
  noImm _ _ _ _ e := nomatch e
  cells _ _ e := nomatch e
  maps _ _ e := nomatch e
  imm _ _ _ e := e
  tok _ e := nomatch e
  tokInj _ _ _ _ e := nomatch e
  lo := rfl
  glob k cs hk j c hc := by
    have hk : (k, cs) ∈ tabs Tryz.prog := hk
    rw [tabs_prog, List.mem_singleton] at hk
    cases hk
    rw [List.getElem?_map] at hc
    cases ht : tab64[j]? with
    | none => rw [ht] at hc; cases hc
    | some n =>
      rw [ht] at hc
      cases hc
      exact h j n ht
theorem rcall_row {f : FuncId} {args : List V} {cargs : Array Value} {W : World} (hT : TabMet W) (h : RCall Tryz.prog f args st0 fun r _ => r = .ret (.bool true)) (hA : LR (VRel (gW W)) args cargs.toList) :
    Calls Tryz.prog f cargs W fun e w' => e = .returned (.bool true) ∧ Below W.heap.size W w' := by
  refine (h W.heap.size (gW W) W cargs (wrel0 hT) hA).mono fun e w' ⟨g', st', r, h1, _, h3, h4⟩ => ?_
  subst h4
  refine ⟨?_, h3.os, h3.tape, h3.output, h3.size, h3.low⟩
  cases e with
  | returned c => cases h1; rfl
  | _ => exact h1.elim
def laidL : List (String × DataW Unit) := [("math/bits.deBruijn32tab", Rows.laid_math_bits_deBruijn32tab), ("math/bits.deBruijn64tab", Rows.laid_math_bits_deBruijn64tab)]
theorem gT64 : Tryz.prog.globalNamed "math/bits.deBruijn64tab" = some 1 := by kernel_rfl
theorem lits_get {xs : List (DataW Unit × List MemPlace)} {j n : Nat} {x : DataW Unit × List MemPlace} (h : xs.map (·.1) = tab64.map fun (n : Nat) => DataW.lit (.int .u8 (n : Int))) (hn : tab64[j]? = some n) (hx : xs[j]? = some x) : x.1 = .lit (.int .u8 (n : Int)) := by
  have := congrArg (fun l => l[j]?) h
  simp only [List.getElem?_map, hn, hx, Option.map_some, Option.some.injEq] at this
  exact this
theorem tab_met {W : World} {ta te : TypeId} (hta : (Tryz.prog.globals[1]?).map (·.type) = some ta) (hua : Tryz.prog.underlying ta = some (.array 64 te)) (hue : Tryz.prog.underlying te = some (.int .u8)) (hce : Tryz.prog.cellsOf te = 1)
    (h : laidMetH Tryz.prog laidL W) : TabMet W := by
  rw [MakeChecks.laidMetH_plain _ _ _ (by kernel_rfl)] at h
  obtain ⟨ps, ⟨g0, t0, cs0, f0, p0, q0, hg0, ht0, hv0, hd0, ⟨g1, t1, cs1, f1, p1, q1, hg1, ht1, hv1, hd1, _, _⟩, _⟩, _, _⟩ := h
  obtain rfl := Option.some.inj (gT64.symm.trans hg1)
  obtain rfl := Option.some.inj (hta.symm.trans ht1)
  intro j n hn
  obtain ⟨xs, m1, _, hx1, hlen, hn3, hel⟩ := DataW.trod_array hua hd1
  simp only [Prod.mk.injEq] at hx1
  have hj : j < 64 := (List.getElem?_eq_some_iff.1 hn).1
  have hj2 := hel j hj
  rw [hce] at hj2
  have hxj : xs[j]? = some xs[j] := List.getElem?_eq_getElem (by omega)
  rw [hxj] at hj2
  obtain ⟨k, e1, e2, _⟩ := DataW.trod_int hue hj2
  have e3 : xs.map (·.1) = tab64.map fun (n : Nat) => DataW.lit (.int .u8 (n : Int)) := by
    have := hx1.1
    unfold Rows.laid_math_bits_deBruijn64tab at this
    injection this with this
    rw [← this]; rfl
  have e4 := lits_get e3 hn hxj
  rw [e2] at e4
  injection e4 with e4
  injection e4 with _ e4
  subst e4
  have hc := World.var?_cell hg1 hv1 j
  rw [hc]
  have : (cs1.toList.drop (j * 1))[0]? = some (Value.int .u8 n) := by
    have := congrArg (fun l => l[0]?) e1
    simpa [List.getElem?_take] using this
  rw [List.getElem?_drop] at this
  simpa using this
end Go.Proofs.YtffenelcgjdbiaaGreatDoor
