/- Merged by a program of mine (pack.py) out of my own texts; what is not used is left out. -/
import Derived.Test.YtffenelcgjdbiaaGreatDoorKOramPlays37
set_option linter.unusedVariables false
set_option linter.unusedSimpArgs false
namespace Go.Sim
open Go
def Ext (a b : Fr) : Prop := ∀ i v, look a i = some v → look b i = some v
theorem bind2 {α β : Type} {x y : Option α} {f g : α → Option β} {r : β} (h : x.bind f = some r) (hx : ∀ v, x = some v → y = some v) (hf : ∀ v, f v = some r → g v = some r) : y.bind g = some r := by
  cases x with
  | none => simp at h
  | some v => rw [hx v rfl]; exact hf v h
section
variable {a b : Fr} (hE : Ext a b)
include hE
theorem evalO_ext {x : AO} {v : V} (h : evalO a x = some v) : evalO b x = some v := by
  cases x with
  | t i => exact hE i v h
  | _ => exact h
theorem evalOs_ext : ∀ {xs : List AO} {vs : List V}, evalOs a xs = some vs → evalOs b xs = some vs
  | [], _, h => h
  | x :: r, vs, h => by
    simp only [evalOs] at h ⊢
    exact bind2 h (fun v hv => evalO_ext hE hv) fun v h => bind2 h (fun v hv => evalOs_ext hv) fun _ h => h
theorem evalPs_ext : ∀ {xs : List (Nat × Nat × AO)} {vs : List (Nat × Nat × V)}, evalPs a xs = some vs → evalPs b xs = some vs
  | [], _, h => h
  | (o, n, x) :: r, vs, h => by
    simp only [evalPs] at h ⊢
    exact bind2 h (fun v hv => evalO_ext hE hv) fun v h => bind2 h (fun v hv => evalPs_ext hv) fun _ h => h
theorem bnd_ext {x : Option AO} {d lim k : Nat} (h : bnd a x d lim = some k) : bnd b x d lim = some k := by
  cases x with
  | none => exact h
  | some x => simp only [bnd] at h ⊢; exact bind2 h (fun v hv => evalO_ext hE hv) fun _ h => h
theorem evalA_ext {o : AOp} {st : St} {r : V × St} (h : evalA o a st = some r) : evalA o b st = some r := by
  have e := fun {x : AO} (v : V) (hv : evalO a x = some v) => evalO_ext hE hv
  cases o <;> simp only [evalA] at h ⊢
  case pick c x y =>
    refine bind2 h e fun v h => ?_
    cases v <;> first | exact bind2 h e fun _ h => h | exact h
  case build z ps => exact bind2 h (fun v hv => evalPs_ext hE hv) fun _ h => h
  case lits s ps => exact bind2 h (fun v hv => evalOs_ext hE hv) fun _ h => h
  case mkf f ps => exact bind2 h (fun v hv => evalOs_ext hE hv) fun _ h => h
  case mm m ps => exact bind2 h (fun v hv => evalOs_ext hE hv) fun _ h => h
  case alloc => exact h
  case mkm => exact h
  case lenA => exact h
  case sl s x lo hi mx =>
    refine bind2 h e fun v h => ?_
    cases v
    case lst s' l c =>
      by_cases hc : s' = s
      · simp only [if_pos hc] at h ⊢
        exact bind2 h (fun _ hv => bnd_ext hE hv) fun m h => bind2 h (fun _ hv => bnd_ext hE hv) fun _ h => bind2 h (fun _ hv => bnd_ext hE hv) fun _ h => h
      · simp only [if_neg hc] at h; cases h
    case ref s' id off len cap =>
      by_cases hc : s' = s ∧ mx.isNone = true
      · simp only [if_pos hc] at h ⊢
        exact bind2 h (fun _ hv => bnd_ext hE hv) fun m h => bind2 h (fun _ hv => bnd_ext hE hv) fun _ h => h
      · simp only [if_neg hc] at h; cases h
    all_goals exact h
  case slA n s x lo hi =>
    refine bind2 h e fun v h => ?_
    cases v
    case ptr => exact bind2 h (fun _ hv => bnd_ext hE hv) fun m h => bind2 h (fun _ hv => bnd_ext hE hv) fun _ h => h
    case ep cs =>
      by_cases hc : s = 1 ∧ n ≤ cs.length
      · simp only [if_pos hc] at h ⊢
        exact bind2 h (fun _ hv => bnd_ext hE hv) fun m h => bind2 h (fun _ hv => bnd_ext hE hv) fun _ h => h
      · simp only [if_neg hc] at h; cases h
    all_goals exact h
  case slS x lo hi =>
    refine bind2 h e fun v h => ?_
    cases v <;> first | exact bind2 h (fun _ hv => bnd_ext hE hv) fun m h => bind2 h (fun _ hv => bnd_ext hE hv) fun _ h => h | exact h
  all_goals first
    | exact bind2 h e fun _ h => h
    | exact bind2 h e fun _ h => bind2 h e fun _ h => h
    | exact bind2 h e fun _ h => bind2 h e fun _ h => bind2 h e fun _ h => h
theorem gval_ext {w : Bool} {j : Nat} {r : Bool} (h : gval w (look a j) = some r) : gval w (look b j) = some r := by
  cases hl : look a j with
  | none => rw [hl] at h; simp [gval] at h
  | some v => rw [hE j v hl]; rw [hl] at h; exact h
theorem awpO_ext {P : Program} {s : SOp} {st : St} {K R : V → St → Prop} (h : awpO P s a st K R) : awpO P s b st K R := by
  cases s <;> simp only [awpO] at h ⊢
  case op o =>
    cases he : evalA o a st with
    | none => rw [he] at h; exact h.elim
    | some r => rw [he] at h; rw [evalA_ext hE he]; exact h
  case call f xs =>
    cases he : evalOs a xs with
    | none => rw [he] at h; exact h.elim
    | some r => rw [he] at h; rw [evalOs_ext hE he]; exact h
  case callv x xs =>
    cases he : evalOs a xs with
    | none =>
      rw [he] at h
      split at h
      · rename_i h1; cases h1
      · exact h.elim
    | some r =>
      cases hx : evalO a x with
      | none => rw [hx] at h; exact h.elim
      | some v => rw [he, hx] at h; rw [evalOs_ext hE he, evalO_ext hE hx]; exact h
  case pan x =>
    cases hx : evalO a x with
    | none => rw [hx] at h; exact h.elim
    | some v => rw [hx] at h; rw [evalO_ext hE hx]; exact h
  case nilq neq x =>
    cases hx : evalO a x with
    | none => rw [hx] at h; exact h.elim
    | some v => rw [hx] at h; rw [evalO_ext hE hx]; exact h
  case appm s by_ z zz x y =>
    cases hx : evalO a x with
    | none => rw [hx] at h; exact h.elim
    | some v =>
      cases hy : evalO a y with
      | none => rw [hx, hy] at h; exact h.elim
      | some u => rw [hx, hy] at h; rw [evalO_ext hE hx, evalO_ext hE hy]; exact h
theorem Ext.put (d : Nat) (v : V) : Ext (Sim.put a d v) (Sim.put b d v) := by
  intro i u h
  rw [look_put] at h ⊢
  split at h
  · rename_i e; rw [if_pos e]; exact h
  · rename_i e; rw [if_neg e]; exact hE i u h
theorem Ext.putO (d : Option Nat) (v : V) : Ext (Sim.putO a d v) (Sim.putO b d v) := by
  cases d with
  | none => exact hE
  | some d => exact hE.put d v
end
theorem awpS_ext {P : Program} : ∀ {ss : List AS} {a b : Fr} {st : St} {Q : Fr → St → Prop} {R : V → St → Prop}, Ext a b → (∀ f g st, Ext f g → Q f st → Q g st) → awpS P ss a st Q R → awpS P ss b st Q R
  | [], _, _, _, _, _, hE, hQ, h => hQ _ _ _ hE h
  | s :: r, a, b, st, Q, R, hE, hQ, h => by
    simp only [awpS] at h ⊢
    cases hg : s.guard with
    | none => rw [hg] at h; exact awpO_ext hE (awpO_mono (fun v st h => awpS_ext (hE.putO _ _) hQ h) (fun _ _ h => h) h)
    | some p =>
      obtain ⟨j, want⟩ := p
      rw [hg] at h
      simp only at h ⊢
      cases hv : gval want (look a j) with
      | none => rw [hv] at h; exact h.elim
      | some x =>
        rw [hv] at h
        rw [gval_ext hE hv]
        simp only at h ⊢
        split at h
        · rename_i e; rw [if_pos e]; exact awpO_ext hE (awpO_mono (fun v st h => awpS_ext (hE.putO _ _) hQ h) (fun _ _ h => h) h)
        · rename_i e; rw [if_neg e]; exact awpS_ext (hE.putO _ _) hQ h
theorem evalS_ext {s : AS} {a b f : Fr} {st : St} (hE : Ext a b) (h : evalS s a st = some f) : ∃ f', evalS s b st = some f' ∧ Ext f f' := by
  unfold evalS at h ⊢
  split at h
  · rename_i o ho
    try rw [ho]
    split at h
    · rename_i hg
      simp only [Option.bind_eq_some_iff, Option.some.injEq] at h
      obtain ⟨x, hx, rfl⟩ := h
      try simp only [hg]
      exact ⟨_, by rw [evalA_ext hE hx]; rfl, hE.putO _ _⟩
    · rename_i j want hg
      try simp only [hg]
      cases hv : gval want (look a j) with
      | none => rw [hv] at h; cases h
      | some y =>
        rw [hv] at h
        rw [gval_ext hE hv]
        simp only at h ⊢
        split at h
        · rename_i e
          simp only [Option.bind_eq_some_iff, Option.some.injEq] at h
          obtain ⟨x, hx, rfl⟩ := h
          rw [if_pos e]
          exact ⟨_, by rw [evalA_ext hE hx]; rfl, hE.putO _ _⟩
        · rename_i e
          simp only [Option.some.injEq] at h
          subst h
          rw [if_neg e]
          exact ⟨_, rfl, hE.putO _ _⟩
  · cases h
theorem hasD_ext {a b : Fr} {d : Option Nat} {v : V} (hE : Ext a b) (h : hasD a d v) : hasD b d v := by
  cases d with
  | none => trivial
  | some d => exact hE d v h
theorem Fact_ext {s : AS} {a b : Fr} {st : St} (hE : Ext a b) (h : Fact s a st) : Fact s b st := by
  unfold Fact at h ⊢
  split at h
  · rename_i o ho
    try rw [ho]
    split at h
    · rename_i hg
      obtain ⟨v, h1, h2⟩ := h
      try simp only [hg]
      exact ⟨v, evalA_ext hE h1, hasD_ext hE h2⟩
    · rename_i j want hg
      try simp only [hg]
      cases hv : gval want (look a j) with
      | none => rw [hv] at h; exact h.elim
      | some y =>
        rw [hv] at h
        rw [gval_ext hE hv]
        simp only at h ⊢
        split at h
        · rename_i e
          rw [if_pos e]
          obtain ⟨v, h1, h2⟩ := h
          exact ⟨v, evalA_ext hE h1, hasD_ext hE h2⟩
        · rename_i e
          rw [if_neg e]
          exact hasD_ext hE h
  · exact h.elim
theorem reOk_ext {a b : Fr} {st : St} (hE : Ext a b) : ∀ {l : List (Nat × AS)}, reOk a st l → reOk b st l
  | [], _ => trivial
  | _ :: _, h => ⟨Fact_ext hE h.1, reOk_ext hE h.2⟩
theorem awpD_ext {P : Program} : ∀ {ds : List DI} {a b : Fr} {st : St} {Q : Fr → St → Prop} {R : V → St → Prop}, Ext a b → (∀ f g st, Ext f g → Q f st → Q g st) → awpD P ds a st Q R → awpD P ds b st Q R
  | [], _, _, _, _, _, hE, hQ, h => hQ _ _ _ hE h
  | .fl i s :: r, a, b, st, Q, R, hE, hQ, h => by
    simp only [awpD] at h ⊢
    split at h
    · rename_i f hf
      obtain ⟨f', h1, h2⟩ := evalS_ext hE hf
      rw [h1]
      exact awpD_ext h2 hQ h
    · exact h.elim
  | .al i s :: r, a, b, st, Q, R, hE, hQ, h => by
    simp only [awpD] at h ⊢
    split at h
    · rename_i z hz; (try rw [hz]); exact awpD_ext (hE.putO _ _) hQ h
    · exact h.elim
  | .an i s re :: r, a, b, st, Q, R, hE, hQ, h => by
    simp only [awpD] at h ⊢
    cases hg : s.guard with
    | none => rw [hg] at h; exact awpO_ext hE (awpO_mono (fun v st h => ⟨reOk_ext (hE.putO _ _) h.1, awpD_ext (hE.putO _ _) hQ h.2⟩) (fun _ _ h => h) h)
    | some p =>
      obtain ⟨j, want⟩ := p
      rw [hg] at h
      simp only at h ⊢
      cases hv : gval want (look a j) with
      | none => rw [hv] at h; exact h.elim
      | some x =>
        rw [hv] at h
        rw [gval_ext hE hv]
        simp only at h ⊢
        split at h
        · rename_i e; rw [if_pos e]; exact awpO_ext hE (awpO_mono (fun v st h => ⟨reOk_ext (hE.putO _ _) h.1, awpD_ext (hE.putO _ _) hQ h.2⟩) (fun _ _ h => h) h)
        · rename_i e; rw [if_neg e]; exact ⟨reOk_ext (hE.putO _ _) h.1, awpD_ext (hE.putO _ _) hQ h.2⟩
theorem awp_ext {P : Program} {c : AC} : ∀ {a b : Fr} {st : St} {Q : AE → Fr → St → Prop}, Ext a b → (∀ e f g st, Ext f g → Q e f st → Q e g st) → awp P c a st Q → awp P c b st Q := by
  have onlyE : ∀ {a b : Fr} (l : List Nat), Ext a b → Ext (only l a) (only l b) := by
    intro a b l hE i v h
    have h1 : look a i = some v := look_only l a i v h
    have h2 := hE i v h1
    have hm : i ∈ l := by
      have : ∀ {l : List Nat}, look (only l a) i = some v → i ∈ l := by
        intro l
        induction l with
        | nil => intro h; simp [only, look] at h
        | cons j r ih =>
          intro h
          simp only [only, List.filterMap_cons] at h
          cases hj : look a j with
          | none => rw [hj] at h; exact List.mem_cons_of_mem _ (ih h)
          | some u =>
            rw [hj] at h
            simp only [Option.map_some, look] at h
            by_cases e : j = i
            · subst e; exact List.mem_cons_self
            · rw [if_neg e] at h; exact List.mem_cons_of_mem _ (ih h)
      exact this h
    rw [look_only_mem hm]; exact h2
  induction c with
  | skip => intro a b st Q hE hQ h; exact hQ _ _ _ _ hE h
  | exit id => intro a b st Q hE hQ h; exact hQ _ _ _ _ hE h
  | ret => intro a b st Q hE hQ h; exact hQ _ _ _ _ hE h
  | reg ss => intro a b st Q hE hQ h; exact awpS_ext hE (fun f g st he h => hQ _ _ _ _ he h) h
  | dreg T AN AL ds => intro a b st Q hE hQ h; exact awpD_ext hE (fun f g st he h => hQ _ _ _ _ he h) h
  | seq x y ihx ihy =>
    intro a b st Q hE hQ h
    refine ihx hE ?_ h
    intro e f g st he h
    cases e with
    | normal => exact ihy he hQ h
    | _ => exact hQ _ _ _ _ he h
  | cond c x y ihx ihy =>
    intro a b st Q hE hQ h
    simp only [awp] at h ⊢
    cases hv : evalO a c with
    | none => rw [hv] at h; exact h.elim
    | some v =>
      rw [hv] at h
      rw [evalO_ext hE hv]
      cases v <;> first | exact ⟨fun e => ihx hE hQ (h.1 e), fun e => ihy hE hQ (h.2 e)⟩ | exact h.elim
  | block id x ih =>
    intro a b st Q hE hQ h
    refine ih hE ?_ h
    intro e f g st he h
    cases e with
    | exit i =>
      simp only at h ⊢
      split at h
      · rename_i e; rw [if_pos e]; exact hQ _ _ _ _ he h
      · rename_i e; rw [if_neg e]; exact hQ _ _ _ _ he h
    | _ => exact hQ _ _ _ _ he h
  | loop live x ih =>
    intro a b st Q hE hQ h
    simp only [awp] at h ⊢
    obtain ⟨I, ⟨n0, h0⟩, h1⟩ := h
    refine ⟨fun n f st => ∃ f0, Ext f0 f ∧ I n f0 st, ⟨n0, _, onlyE live hE, h0⟩, ?_⟩
    rintro n f st ⟨f0, hf, hI⟩
    refine ih hf ?_ (awp_mono ?_ (h1 n f0 st hI)) (Q := fun e fr' st' => match e with | .normal => ∃ m, m < n ∧ ∃ f0, Ext f0 (only live fr') ∧ I m f0 st' | e => Q e fr' st')
    · intro e f g st he h
      cases e with
      | normal =>
        obtain ⟨m, hm, f0, hf0, hI⟩ := h
        exact ⟨m, hm, f0, fun i v hi => onlyE live he i v (hf0 i v hi), hI⟩
      | _ => exact hQ _ _ _ _ he h
    · intro e f st h
      cases e with
      | normal =>
        obtain ⟨m, hm, hI⟩ := h
        exact ⟨m, hm, _, fun _ _ h => h, hI⟩
      | _ => exact h
  | only live x ih => intro a b st Q hE hQ h; exact ih (onlyE live hE) hQ h
  | frz t agg x ih =>
    intro a b st Q hE hQ h
    simp only [awp, doFrz] at h ⊢
    cases hl : look a t with
    | none => rw [hl] at h; exact h.elim
    | some v =>
      rw [hl] at h
      rw [hE t v hl]
      cases v <;> try exact h.elim
      case ref sz id off len cap =>
        simp only at h ⊢
        cases hc : st.cells id with
        | none => rw [hc] at h; exact h.elim
        | some cs =>
          rw [hc] at h
          simp only [Option.bind_some] at h ⊢
          cases hf : frzL agg sz off len cap cs with
          | none => rw [hf] at h; exact h.elim
          | some l =>
            rw [hf] at h
            exact ih (hE.put _ _) hQ h
      case ptr id off =>
        cases off with
        | succ n => exact h.elim
        | zero =>
          simp only at h ⊢
          cases hc : st.cells id with
          | none => rw [hc] at h; exact h.elim
          | some cs =>
            rw [hc] at h
            exact ih (hE.put _ _) hQ h
end Go.Sim
