/- Merged by a program of mine (pack.py) out of my own texts; what is not used is left out. -/
import Derived.Test.YtffenelcgjdbiaaGreatDoorKOramPlays29
set_option linter.unusedVariables false
set_option linter.unusedSimpArgs false
namespace Go.Sim
open Go
def aoR : AO → List Nat
  | .t i => [i]
  | _ => []
def aosR : List AO → List Nat
  | [] => []
  | x :: r => aoR x ++ aosR r
def apsR : List (Nat × Nat × AO) → List Nat
  | [] => []
  | x :: r => aoR x.2.2 ++ apsR r
def aoO : Option AO → List Nat
  | none => []
  | some x => aoR x
def aopR : AOp → List Nat
  | .mv x | .box x | .nilc x | .un _ x | .cint _ x | .cid x | .b2s x | .s2b x | .fa _ x | .fld _ _ _ x | .ext x _ | .ld _ _ x | .len _ x | .capv x | .mki _ x | .mark x | .arr _ _ x => aoR x
  | .pick c x y => aoR c ++ (aoR x ++ aoR y)
  | .alloc _ | .mkm | .lenA _ => []
  | .iaG _ _ _ _ x => aoR x
  | .build _ ps => apsR ps
  | .lits _ ps | .mkf _ ps | .mm _ ps => aosR ps
  | .sto _ x y | .bin _ x y | .eqv _ _ x y | .ia _ x y | .iaA _ _ x y | .ixA _ _ _ x y | .ixS x y | .look _ x y _ | .del x y | .app _ _ _ x y | .appz _ _ _ x y | .cpy _ x y => aoR x ++ aoR y
  | .mks _ _ _ _ x y => aoR x ++ aoR y
  | .mup x y z => aoR x ++ (aoR y ++ aoR z)
  | .sl _ x lo hi mx => aoR x ++ (aoO lo ++ (aoO hi ++ aoO mx))
  | .slA _ _ x lo hi => aoR x ++ (aoO lo ++ aoO hi)
  | .slS x lo hi => aoR x ++ (aoO lo ++ aoO hi)
def sopR : SOp → List Nat
  | .op o => aopR o
  | .call _ xs => aosR xs
  | .callv x xs => aoR x ++ aosR xs
  | .pan x => aoR x
  | .appm _ _ _ _ x y => aoR x ++ aoR y
  | .nilq _ x => aoR x
def asR (s : AS) : List Nat := (match s.guard with | some (j, _) => [j] | none => []) ++ sopR s.op
section
variable {fr fr' : Fr}
theorem evalO_congr {x : AO} (h : ∀ i ∈ aoR x, look fr i = look fr' i) : evalO fr x = evalO fr' x := by
  cases x with
  | t i => exact h i (by simp [aoR])
  | _ => rfl
theorem evalOs_congr {xs : List AO} (h : ∀ i ∈ aosR xs, look fr i = look fr' i) : evalOs fr xs = evalOs fr' xs := by
  induction xs with
  | nil => rfl
  | cons x xs ih =>
    have h1 := evalO_congr (x := x) (fun i hi => h i (by simp [aosR, hi]))
    have h2 := ih (fun i hi => h i (by simp [aosR, hi]))
    simp only [evalOs, h1, h2]
theorem evalPs_congr {xs : List (Nat × Nat × AO)} (h : ∀ i ∈ apsR xs, look fr i = look fr' i) : evalPs fr xs = evalPs fr' xs := by
  induction xs with
  | nil => rfl
  | cons x xs ih =>
    obtain ⟨o, n, y⟩ := x
    have h1 := evalO_congr (x := y) (fun i hi => h i (by simp [apsR, hi]))
    have h2 := ih (fun i hi => h i (by simp [apsR, hi]))
    simp only [evalPs, h1, h2]
theorem bnd_congr {x : Option AO} {d l : Nat} (h : ∀ i ∈ aoO x, look fr i = look fr' i) : bnd fr x d l = bnd fr' x d l := by
  cases x with
  | none => rfl
  | some y => simp only [bnd, evalO_congr (x := y) h]
theorem evalA_congr {o : AOp} {st : St} (h : ∀ i ∈ aopR o, look fr i = look fr' i) : evalA o fr st = evalA o fr' st := by
  cases o <;> simp only [aopR, List.mem_append] at h <;> simp only [evalA]
  case mv x => rw [evalO_congr (x := x) h]
  case box x => rw [evalO_congr (x := x) h]
  case nilc x => rw [evalO_congr (x := x) h]
  case un op x => rw [evalO_congr (x := x) h]
  case cint k x => rw [evalO_congr (x := x) h]
  case cid x => rw [evalO_congr (x := x) h]
  case b2s x => rw [evalO_congr (x := x) h]
  case s2b x => rw [evalO_congr (x := x) h]
  case fa k x => rw [evalO_congr (x := x) h]
  case fld k n ag x => rw [evalO_congr (x := x) h]
  case ext x k => rw [evalO_congr (x := x) h]
  case ld n ag x => rw [evalO_congr (x := x) h]
  case len k x => rw [evalO_congr (x := x) h]
  case capv x => rw [evalO_congr (x := x) h]
  case mki t x => rw [evalO_congr (x := x) h]
  case mark x => rw [evalO_congr (x := x) h]
  case arr n s x => rw [evalO_congr (x := x) h]
  case pick c x y =>
    rw [evalO_congr (x := c) fun i hi => h i (.inl hi)]
    have hx := evalO_congr (x := x) fun i hi => h i (.inr (.inl hi))
    have hy := evalO_congr (x := y) fun i hi => h i (.inr (.inr hi))
    congr 1; funext v
    cases v <;> try rfl
    rename_i b
    cases b
    · simp only [Bool.false_eq_true, if_false, hy]
    · simp only [if_true, hx]
  case build z ps => rw [evalPs_congr h]
  case lits s ps => rw [evalOs_congr h]
  case mkf f ps => rw [evalOs_congr h]
  case mm b ps => rw [evalOs_congr h]
  case sto n x y => rw [evalO_congr (x := x) fun i hi => h i (.inl hi), evalO_congr (x := y) fun i hi => h i (.inr hi)]
  case bin op x y => rw [evalO_congr (x := x) fun i hi => h i (.inl hi), evalO_congr (x := y) fun i hi => h i (.inr hi)]
  case eqv k b x y => rw [evalO_congr (x := x) fun i hi => h i (.inl hi), evalO_congr (x := y) fun i hi => h i (.inr hi)]
  case ia s x y => rw [evalO_congr (x := x) fun i hi => h i (.inl hi), evalO_congr (x := y) fun i hi => h i (.inr hi)]
  case iaG k n s cs x => rw [evalO_congr h]
  case iaA n s x y => rw [evalO_congr (x := x) fun i hi => h i (.inl hi), evalO_congr (x := y) fun i hi => h i (.inr hi)]
  case ixA n s ag x y => rw [evalO_congr (x := x) fun i hi => h i (.inl hi), evalO_congr (x := y) fun i hi => h i (.inr hi)]
  case ixS x y => rw [evalO_congr (x := x) fun i hi => h i (.inl hi), evalO_congr (x := y) fun i hi => h i (.inr hi)]
  case look z x y ok => rw [evalO_congr (x := x) fun i hi => h i (.inl hi), evalO_congr (x := y) fun i hi => h i (.inr hi)]
  case del x y => rw [evalO_congr (x := x) fun i hi => h i (.inl hi), evalO_congr (x := y) fun i hi => h i (.inr hi)]
  case app s b mu x y => rw [evalO_congr (x := x) fun i hi => h i (.inl hi), evalO_congr (x := y) fun i hi => h i (.inr hi)]
  case appz s b z x y => rw [evalO_congr (x := x) fun i hi => h i (.inl hi), evalO_congr (x := y) fun i hi => h i (.inr hi)]
  case cpy s x y => rw [evalO_congr (x := x) fun i hi => h i (.inl hi), evalO_congr (x := y) fun i hi => h i (.inr hi)]
  case mks s b z mu x y => rw [evalO_congr (x := x) fun i hi => h i (.inl hi), evalO_congr (x := y) fun i hi => h i (.inr hi)]
  case mup x y z => rw [evalO_congr (x := x) fun i hi => h i (.inl hi), evalO_congr (x := y) fun i hi => h i (.inr (.inl hi)), evalO_congr (x := z) fun i hi => h i (.inr (.inr hi))]
  case sl s x lo hi mx =>
    rw [evalO_congr (x := x) fun i hi => h i (.inl hi)]
    have h1 : ∀ d l, bnd fr lo d l = bnd fr' lo d l := fun d l => bnd_congr fun i hi => h i (.inr (.inl hi))
    have h2 : ∀ d l, bnd fr hi d l = bnd fr' hi d l := fun d l => bnd_congr fun i hi => h i (.inr (.inr (.inl hi)))
    have h3 : ∀ d l, bnd fr mx d l = bnd fr' mx d l := fun d l => bnd_congr fun i hi => h i (.inr (.inr (.inr hi)))
    simp only [h1, h2, h3]
  case slA n s x lo hi =>
    rw [evalO_congr (x := x) fun i hi => h i (.inl hi)]
    have h1 : ∀ d l, bnd fr lo d l = bnd fr' lo d l := fun d l => bnd_congr fun i hi => h i (.inr (.inl hi))
    have h2 : ∀ d l, bnd fr hi d l = bnd fr' hi d l := fun d l => bnd_congr fun i hi => h i (.inr (.inr hi))
    simp only [h1, h2]
  case slS x lo hi =>
    rw [evalO_congr (x := x) fun i hi => h i (.inl hi)]
    have h1 : ∀ d l, bnd fr lo d l = bnd fr' lo d l := fun d l => bnd_congr fun i hi => h i (.inr (.inl hi))
    have h2 : ∀ d l, bnd fr hi d l = bnd fr' hi d l := fun d l => bnd_congr fun i hi => h i (.inr (.inr hi))
    simp only [h1, h2]
theorem awpO_congr {P : Program} {s : SOp} {st : St} {K R : V → St → Prop} (h : ∀ i ∈ sopR s, look fr i = look fr' i) : awpO P s fr st K R = awpO P s fr' st K R := by
  cases s <;> simp only [sopR, List.mem_append] at h <;> simp only [awpO]
  case op o => rw [evalA_congr h]
  case call f xs => rw [evalOs_congr h]
  case callv x xs => rw [evalO_congr (x := x) fun i hi => h i (.inl hi), evalOs_congr fun i hi => h i (.inr hi)]
  case pan x => rw [evalO_congr h]
  case nilq neq x => rw [evalO_congr h]
  case appm s b z zz x y => rw [evalO_congr (x := x) fun i hi => h i (.inl hi), evalO_congr (x := y) fun i hi => h i (.inr hi)]
end
def isPure : AOp → Bool
  | .mv _ | .pick .. | .build .. | .lits .. | .nilc _ | .bin .. | .eqv .. | .un .. | .cint .. | .cid _ | .fa .. | .fld .. | .ia .. | .iaA .. | .iaG .. | .ixA .. | .ixS .. | .ext .. | .mkf .. | .sl .. | .slA .. | .slS .. | .lenA _ | .capv _ | .mm .. | .mki .. | .mark _ | .arr .. | .b2s _ => true
  | .mks _ _ _ mu _ _ => !mu
  | .len k _ => k != 2
  | _ => false
def isLoad : AOp → Bool
  | .ld .. | .look .. => true
  | .len k _ => k == 2
  | _ => false
theorem map_ite' {α β : Type} (c : Prop) [Decidable c] (x y : Option α) (f : α → β) : (if c then x else y).map f = if c then x.map f else y.map f := by split <;> rfl
def Par (f : St → Option (V × St)) : Prop := ∀ st st2, f st2 = (f st).map fun r => (r.1, st2)
theorem Par.some (v : V) : Par fun st => some (v, st) := fun _ _ => rfl
theorem Par.none : Par fun _ => none := fun _ _ => rfl
theorem Par.bind {α : Type} (x : Option α) {f : α → St → Option (V × St)} (h : ∀ a, Par (f a)) : Par fun st => x.bind fun a => f a st := by
  intro st st2
  cases x with
  | none => rfl
  | some a => exact h a st st2
theorem Par.ite (c : Prop) [Decidable c] {f g : St → Option (V × St)} (hf : Par f) (hg : Par g) : Par fun st => if c then f st else g st := by
  intro st st2
  by_cases h : c
  · simp only [if_pos h]; exact hf st st2
  · simp only [if_neg h]; exact hg st st2
theorem par_pure {o : AOp} {fr : Fr} (hp : isPure o = true) : Par fun st => evalA o fr st := by
  cases o <;> simp only [isPure, Bool.not_eq_true', bne_iff_ne, ne_eq, Bool.false_eq_true] at hp <;> simp only [evalA]
  case mv x => exact .bind _ fun v => .some v
  case pick c x y => exact .bind _ fun v => by cases v <;> first | exact .none | exact .bind _ fun u => .some u
  case build z ps => exact .bind _ fun vs => .bind _ fun cs => .some _
  case lits s ps => exact .bind _ fun vs => .ite _ (.some _) .none
  case nilc x => exact .bind _ fun v => by cases v <;> first | exact .none | exact .some _
  case bin op x y => exact .bind _ fun _ => .bind _ fun _ => .bind _ fun v => .some v
  case eqv k n x y =>
    refine .bind _ fun p => .bind _ fun q => .ite _ .none ?_
    intro st st2
    split <;> rfl
  case un op x => exact .bind _ fun v => by cases op <;> cases v <;> first | exact .none | exact .some _
  case cint k x => exact .bind _ fun v => by cases v <;> first | exact .none | exact .some _
  case cid x => exact .bind _ fun v => by cases v <;> first | exact .none | exact .some _
  case b2s x =>
    refine .bind _ fun v => ?_
    intro st st2
    split
    · rename_i l c; cases strOf l <;> rfl
    · rfl
  case fa k x => exact .bind _ fun v => by cases v <;> first | exact .none | exact .some _ | exact .ite _ (.some _) .none
  case fld k n ag x => exact .bind _ fun v => by cases v <;> first | exact .none | exact .ite _ (.bind _ fun u => .some u) .none
  case ia s x y => exact .bind _ fun v => .bind _ fun _ => .bind _ fun i => by cases v <;> first | exact .none | exact .ite _ (.bind _ fun k => .bind _ fun e => .some _) .none | exact .ite _ (.bind _ fun k => .some _) .none
  case iaG k n s cs x => exact .bind _ fun _ => .bind _ fun i => .bind _ fun k => .ite _ (.some _) .none
  case iaA n s x y => exact .bind _ fun v => .bind _ fun _ => .bind _ fun i => by cases v <;> first | exact .none | exact .bind _ fun k => .some _ | exact .bind _ fun k => .ite _ (.some _) .none
  case ixA n s ag x y => exact .bind _ fun v => .bind _ fun _ => .bind _ fun i => by cases v <;> first | exact .none | exact .bind _ fun k => .ite _ (.bind _ fun u => .some u) .none
  case ixS x y => exact .bind _ fun v => .bind _ fun _ => .bind _ fun i => by cases v <;> first | exact .none | exact .bind _ fun k => .bind _ fun c => .some _
  case ext x k => exact .bind _ fun v => by cases v <;> first | exact .none | exact .bind _ fun u => .some u
  case mkf f ps => exact .bind _ fun vs => .some _
  case mks s b z mu x y =>
    subst hp
    refine .bind _ fun p => .bind _ fun q => ?_
    intro st st2
    split
    · simp only [Bool.false_eq_true, if_false, map_ite', Option.map_some, Option.map_none]
    · rfl
  case sl s x lo hi mx => exact .bind _ fun v => by cases v <;> first | exact .none | exact .ite _ (.bind _ fun m => .bind _ fun h => .bind _ fun b => .ite _ (.some _) .none) .none | exact .ite _ (.bind _ fun h => .bind _ fun b => .some _) .none
  case slA n s x lo hi => exact .bind _ fun v => by cases v <;> first | exact .none | exact .bind _ fun h => .bind _ fun b => .some _ | exact .ite _ (.bind _ fun h => .bind _ fun b => .some _) .none
  case slS x lo hi => exact .bind _ fun v => by cases v <;> first | exact .none | exact .bind _ fun h => .bind _ fun b => .some _
  case len k x =>
    refine .bind _ fun v => ?_
    intro st st2
    by_cases hk : cls v ≠ k
    · simp only [if_pos hk]; rfl
    · simp only [if_neg hk]
      cases v <;> first | rfl | (exfalso; simp only [ne_eq, Decidable.not_not, cls] at hk; exact hp hk.symm)
  case lenA n => exact .some _
  case capv x => exact .bind _ fun v => by cases v <;> first | exact .none | exact .some _ | (intro st st2; rename_i c; cases c <;> rfl)
  case mm b ps =>
    refine .bind _ fun vs => ?_
    intro st st2
    split <;> rfl
  case mki t x => exact .bind _ fun v => .some _
  case mark x =>
    refine .bind _ fun v => ?_
    intro st st2
    split <;> rfl
  case arr n s x => exact .bind _ fun v => by cases v <;> first | exact .none | exact .ite _ (.some _) .none
theorem pure_same {o : AOp} {fr : Fr} {st st' : St} {v : V} (hp : isPure o = true) (h : evalA o fr st = some (v, st')) : st' = st ∧ ∀ st2, evalA o fr st2 = some (v, st2) := by
  have hpar := par_pure (fr := fr) hp
  have h1 := hpar st st
  simp only [h, Option.map_some, Option.some.injEq, Prod.mk.injEq, true_and] at h1
  refine ⟨h1, fun st2 => ?_⟩
  have h2 := hpar st st2
  simp only [h, Option.map_some] at h2
  exact h2
theorem load_same {o : AOp} {fr : Fr} {st st' : St} {v : V} (hp : isLoad o = true) (h : evalA o fr st = some (v, st')) : st' = st := by
  cases o <;> simp only [isLoad, Bool.false_eq_true, beq_iff_eq] at hp <;> simp only [evalA, Option.bind_eq_some_iff] at h
  case ld n ag x =>
    obtain ⟨u, _, h⟩ := h
    split at h
    · simp only [Option.bind_eq_some_iff] at h
      obtain ⟨cs, _, h⟩ := h
      split at h
      · simp only [Option.bind_eq_some_iff, Option.some.injEq, Prod.mk.injEq] at h
        exact h.choose_spec.2.2.symm
      · cases h
    · split at h
      · simp only [Option.bind_eq_some_iff, Option.some.injEq, Prod.mk.injEq] at h
        exact h.choose_spec.2.2.symm
      · cases h
    · cases h
  case look z x y ok =>
    obtain ⟨u, _, w, _, h⟩ := h
    split at h
    · simp only [Option.bind_eq_some_iff, Option.some.injEq, Prod.mk.injEq] at h
      obtain ⟨_, _, _, _, _, rfl⟩ := h; rfl
    · simp only [Option.some.injEq, Prod.mk.injEq] at h
      exact h.2.symm
    · cases h
  case len k x =>
    obtain ⟨u, _, h⟩ := h
    split at h
    · cases h
    · cases u <;> first | (simp at h; done) | (simp only [Option.some.injEq, Prod.mk.injEq] at h; exact h.2.symm) | (simp only [Option.bind_eq_some_iff, Option.some.injEq, Prod.mk.injEq] at h; obtain ⟨_, _, _, rfl⟩ := h; rfl)
end Go.Sim
