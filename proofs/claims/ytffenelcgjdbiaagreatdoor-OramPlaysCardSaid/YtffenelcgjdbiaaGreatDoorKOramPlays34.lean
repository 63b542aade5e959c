/- Merged by a program of mine (pack.py) out of my own texts; what is not used is left out. -/
import Derived.Test.YtffenelcgjdbiaaGreatDoorKOramPlays33
set_option linter.unusedVariables false
set_option linter.unusedSimpArgs false
namespace Go.Sim
open Go
structure St.le (a b : St) : Prop where
  next : a.next ≤ b.next
  cells : ∀ id, id < a.next → b.cells id = a.cells id
  maps : ∀ id, id < a.next → b.maps id = a.maps id
  tok : ∀ id, id < a.next → b.tok id = a.tok id
theorem St.le.refl (a : St) : a.le a := ⟨Nat.le_refl _, fun _ _ => rfl, fun _ _ => rfl, fun _ _ => rfl⟩
theorem St.le.trans {a b c : St} (h : a.le b) (k : b.le c) : a.le c :=
  ⟨Nat.le_trans h.next k.next, fun i hi => by rw [k.cells i (Nat.lt_of_lt_of_le hi h.next), h.cells i hi], fun i hi => by rw [k.maps i (Nat.lt_of_lt_of_le hi h.next), h.maps i hi],
    fun i hi => by rw [k.tok i (Nat.lt_of_lt_of_le hi h.next), h.tok i hi]⟩
theorem St.lt_of_cells {a : St} {id : Nat} {cs : List V} (h : a.cells id = some cs) : id < a.next := by
  rcases Nat.lt_or_ge id a.next with h2 | h2
  · exact h2
  · rw [(a.wf id h2).1] at h; cases h
theorem St.lt_of_maps {a : St} {id : Nat} {cs : List (V × V)} (h : a.maps id = some cs) : id < a.next := by
  rcases Nat.lt_or_ge id a.next with h2 | h2
  · exact h2
  · rw [(a.wf id h2).2.1] at h; cases h
theorem St.lt_of_tok {a : St} {id : Nat} (h : a.tok id = true) : id < a.next := by
  rcases Nat.lt_or_ge id a.next with h2 | h2
  · exact h2
  · rw [(a.wf id h2).2.2] at h; cases h
theorem St.le.getC {a b : St} (h : a.le b) {id : Nat} {cs : List V} (hc : a.cells id = some cs) : b.cells id = some cs := by rw [h.cells id (St.lt_of_cells hc), hc]
theorem St.le.getT {a b : St} (h : a.le b) {id : Nat} (hc : a.tok id = true) : b.tok id = true := by rw [h.tok id (St.lt_of_tok hc), hc]
theorem St.le.can {a b : St} (h : a.le b) {c : Cap} (hc : canApp a c = true) : canApp b c = true := by
  cases c with
  | tail t => exact h.getT hc
  | _ => exact hc
theorem St.le_newC (a : St) (cs : List V) : a.le (a.newC cs) := ⟨Nat.le_succ _, fun i hi => upd_ne _ _ (by omega), fun _ _ => rfl, fun _ _ => rfl⟩
theorem St.le_newM (a : St) : a.le a.newM := ⟨Nat.le_succ _, fun _ _ => rfl, fun i hi => upd_ne _ _ (by omega), fun _ _ => rfl⟩
theorem St.le_newT (a : St) : a.le a.newT := ⟨Nat.le_succ _, fun _ _ => rfl, fun _ _ => rfl, fun i hi => upd_ne _ _ (by omega)⟩
def fresh (base : St) : Cap → Prop
  | .tail t => base.next ≤ t
  | .nil => True
  | .exact => True
  | .full => True
  | .unk => False
theorem St.le.app {base a : St} (h : base.le a) {c : Cap} (hc : fresh base c) (m : List V) : base.le (appSt a c m) := by
  unfold appSt
  split
  · exact h
  · cases c with
    | tail t =>
      refine ⟨Nat.le_trans h.next (Nat.le_succ _), h.cells, h.maps, fun i hi => ?_⟩
      have hc' : base.next ≤ t := hc
      have h1 : i ≠ a.next := by have := h.next; omega
      have h2 : i ≠ t := by omega
      show upd (upd a.tok t false) a.next true i = _
      rw [upd_ne _ _ h1, upd_ne _ _ h2]; exact h.tok i hi
    | nil => exact h.trans (St.le_newT a)
    | exact => exact h.trans (St.le_newT a)
    | full => exact h.trans (St.le_newT a)
    | unk => exact hc.elim
theorem fresh_app {base a : St} (h : base.le a) {c : Cap} (hc : fresh base c) (m : List V) : fresh base (appCap a c m) := by
  unfold appCap
  split
  · exact hc
  · exact h.next
def Bs (l : List Nat) : List V := l.map fun (n : Nat) => V.int .u8 (n : Int)
@[simp] theorem Bs_nil : Bs [] = [] := rfl
@[simp] theorem Bs_length (l : List Nat) : (Bs l).length = l.length := by simp [Bs]
section rules
variable {P : Program} {fr : Fr} {st : St} {Q : AE → Fr → St → Prop}
@[simp] theorem awp_skip : awp P .skip fr st Q = Q .normal fr st := rfl
@[simp] theorem awp_reg (ss : List AS) : awp P (.reg ss) fr st Q = awpS P ss fr st (fun fr' st' => Q .normal fr' st') (fun v st' => Q (.pan v) [] st') := rfl
@[simp] theorem awp_dreg (T : List Nat) (AN AL : Nat) (ds : List DI) : awp P (.dreg T AN AL ds) fr st Q = awpD P ds fr st (fun fr' st' => Q .normal fr' st') (fun v st' => Q (.pan v) [] st') := rfl
@[simp] theorem awp_seq (x y : AC) : awp P (.seq x y) fr st Q = awp P x fr st fun e fr' st' => match e with | .normal => awp P y fr' st' Q | e => Q e fr' st' := rfl
@[simp] theorem awp_cond (c : AO) (x y : AC) : awp P (.cond c x y) fr st Q = (match evalO fr c with
    | some (.bool b) => (b = true → awp P x fr st Q) ∧ (b = false → awp P y fr st Q)
    | _ => False) := rfl
@[simp] theorem awp_block (id : Nat) (x : AC) : awp P (.block id x) fr st Q = awp P x fr st fun e fr' st' => match e with | .exit id' => if id' = id then Q .normal fr' st' else Q (.exit id') fr' st' | e => Q e fr' st' := rfl
@[simp] theorem awp_exit (id : Nat) : awp P (.exit id) fr st Q = Q (.exit id) fr st := rfl
@[simp] theorem awp_ret : awp P .ret fr st Q = Q .ret fr st := rfl
@[simp] theorem awp_only (live : List Nat) (x : AC) : awp P (.only live x) fr st Q = awp P x (only live fr) st Q := rfl
theorem awpO_mono {o : SOp} {K K' R R' : V → St → Prop} (hK : ∀ v st, K v st → K' v st) (hR : ∀ v st, R v st → R' v st) (h : awpO P o fr st K R) : awpO P o fr st K' R' := by
  cases o with
  | op o =>
    simp only [awpO] at h ⊢
    cases he : evalA o fr st with
    | none => rw [he] at h; exact h
    | some r => rw [he] at h; exact hK _ _ h
  | call f args =>
    simp only [awpO] at h ⊢
    cases hv : evalOs fr args with
    | none => rw [hv] at h; exact h
    | some vs => rw [hv] at h; exact h.mono fun r st' hr => by cases r <;> first | exact hK _ _ hr | exact hR _ _ hr
  | callv x args =>
    simp only [awpO] at h ⊢
    split at h
    · exact ⟨h.1, h.2.mono fun r st' hr => by cases r <;> first | exact hK _ _ hr | exact hR _ _ hr⟩
    · exact h.elim
  | pan x =>
    simp only [awpO] at h ⊢
    split at h
    · exact hR _ _ h
    · exact h.elim
  | nilq neq x =>
    simp only [awpO] at h ⊢
    split at h
    · rename_i a _
      cases a <;> simp only [nilqQ] at h ⊢
      · exact ⟨h.1, fun b h1 h2 => hK _ _ (h.2 b h1 h2)⟩
      · exact hK _ _ h
    · exact h.elim
  | appm sz bytes z zz x y =>
    simp only [awpO] at h ⊢
    split at h
    · rename_i a b _ _
      cases a <;> simp only [appmQ] at h ⊢
      obtain ⟨h1, h2, m, h3, h4, h5, h6⟩ := h
      exact ⟨h1, h2, m, h3, h4, h5, fun k hk => hK _ _ (h6 k hk)⟩
    · exact h.elim
theorem awpS_mono {ss : List AS} : ∀ {fr : Fr} {st : St} {K K' : Fr → St → Prop} {R R' : V → St → Prop}, (∀ fr st, K fr st → K' fr st) → (∀ v st, R v st → R' v st) → awpS P ss fr st K R → awpS P ss fr st K' R' := by
  induction ss with
  | nil => intro fr st K K' R R' hK hR h; exact hK _ _ h
  | cons s ss ih =>
    intro fr st K K' R R' hK hR h
    simp only [awpS] at h ⊢
    cases hg : s.guard with
    | none => rw [hg] at h; exact awpO_mono (fun v st h => ih hK hR h) hR h
    | some p =>
      obtain ⟨j, want⟩ := p
      rw [hg] at h
      simp only at h ⊢
      split at h
      · split at h
        · rename_i hb; rw [if_pos hb]; exact awpO_mono (fun v st h => ih hK hR h) hR h
        · rename_i hb; rw [if_neg hb]; exact ih hK hR h
      · exact h.elim
theorem awpD_mono {ds : List DI} : ∀ {fr : Fr} {st : St} {K K' : Fr → St → Prop} {R R' : V → St → Prop}, (∀ fr st, K fr st → K' fr st) → (∀ v st, R v st → R' v st) → awpD P ds fr st K R → awpD P ds fr st K' R' := by
  induction ds with
  | nil => intro fr st K K' R R' hK hR h; exact hK _ _ h
  | cons d ds ih =>
    intro fr st K K' R R' hK hR h
    cases d with
    | fl i s =>
      simp only [awpD] at h ⊢
      split at h
      · exact ih hK hR h
      · exact h.elim
    | al i s =>
      simp only [awpD] at h ⊢
      split at h
      · exact ih hK hR h
      · exact h.elim
    | an i s re =>
      simp only [awpD] at h ⊢
      split at h
      · exact awpO_mono (fun v st h => ⟨h.1, ih hK hR h.2⟩) hR h
      · split at h
        · split at h
          · rename_i hb; rw [if_pos hb]; exact awpO_mono (fun v st h => ⟨h.1, ih hK hR h.2⟩) hR h
          · rename_i hb; rw [if_neg hb]; exact ⟨h.1, ih hK hR h.2⟩
        · exact h.elim
theorem awp_mono {ac : AC} : ∀ {fr : Fr} {st : St} {Q Q' : AE → Fr → St → Prop}, (∀ e fr st, Q e fr st → Q' e fr st) → awp P ac fr st Q → awp P ac fr st Q' := by
  induction ac with
  | skip => intro fr st Q Q' hq h; exact hq _ _ _ h
  | reg ss => intro fr st Q Q' hq h; exact awpS_mono (fun _ _ => hq _ _ _) (fun _ _ => hq _ _ _) h
  | dreg T AN AL ds => intro fr st Q Q' hq h; exact awpD_mono (fun _ _ => hq _ _ _) (fun _ _ => hq _ _ _) h
  | seq x y ihx ihy =>
    intro fr st Q Q' hq h
    refine ihx ?_ h
    intro e fr' st' he
    cases e with
    | normal => exact ihy hq he
    | _ => exact hq _ _ _ he
  | cond c x y ihx ihy =>
    intro fr st Q Q' hq h
    simp only [awp] at h ⊢
    split at h
    · exact ⟨fun hb => ihx hq (h.1 hb), fun hb => ihy hq (h.2 hb)⟩
    · exact h.elim
  | block id x ih =>
    intro fr st Q Q' hq h
    refine ih ?_ h
    intro e fr' st' he
    cases e with
    | exit i =>
      simp only at he ⊢
      split at he
      · rename_i hi; rw [if_pos hi]; exact hq _ _ _ he
      · rename_i hi; rw [if_neg hi]; exact hq _ _ _ he
    | _ => exact hq _ _ _ he
  | loop live x ih =>
    intro fr st Q Q' hq h
    simp only [awp] at h ⊢
    obtain ⟨I, h0, h1⟩ := h
    refine ⟨I, h0, fun n fr1 st1 hI => ih ?_ (h1 n fr1 st1 hI)⟩
    intro e fr' st' he
    cases e with
    | normal => exact he
    | _ => exact hq _ _ _ he
  | exit id => intro fr st Q Q' hq h; exact hq _ _ _ h
  | ret => intro fr st Q Q' hq h; exact hq _ _ _ h
  | only live x ih => intro fr st Q Q' hq h; exact ih hq h
  | frz t agg x ih =>
    intro fr st Q Q' hq h
    simp only [awp] at h ⊢
    split at h
    · exact ih hq h
    · exact h.elim
end rules
end Go.Sim
