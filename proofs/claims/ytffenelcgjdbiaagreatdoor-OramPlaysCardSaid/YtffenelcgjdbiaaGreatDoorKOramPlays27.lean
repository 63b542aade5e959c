/- Merged by a program of mine (pack.py) out of my own texts; what is not used is left out. -/
import Derived.Test.YtffenelcgjdbiaaGreatDoorKOramPlays26
set_option linter.unusedVariables false
set_option linter.unusedSimpArgs false
namespace Go.Sim
open Go
def nilqQ (neq : Bool) (a : V) (st : St) (K : V → St → Prop) : Prop :=
  match a with
  | .lst s l c => s ≠ 0 ∧ ∀ b : Bool, (b = true → l = []) → (c = .nil → b = true) → K (.bool (if neq then !b else b)) st
  | .ref _ _ _ _ _ => K (.bool neq) st
  | _ => False
theorem sound_nilq {P : Program} {B : Env} {g : G} {st : St} {w : World} {o : Oper} {a : Act} {N : Nat} {fr : Fr} {neq : Bool} {t u : TypeId} {x y : Operand} {x' : AO} {K : V → St → Prop} (ho : o.op = .binOp (if neq then .neq else .eql) t x y u)
    (hk : kindIs P t 3 = true) (hx : chkO x x' = true) (hy : chkO y (.c (.lst 1 [] .nil)) = true) (hF : FRel g N fr a.tmps) (hW : WRel B g st w) {p : V} (hp : evalO fr x' = some p) (he : nilqQ neq p st K) :
    ∃ v st', K v st' ∧ Good P B g w o a v st' := by
  obtain ⟨e, hu⟩ := kindIs_slice hk
  have hr1 := chkO_sound hx hF hp
  have hr2 := chkO_sound hy hF (v := .lst 1 [] .nil) rfl
  generalize hxe : a.eval x = cx at hr1
  generalize hye : a.eval y = cy at hr2
  cases hr2 with
  | lst hn2 hs2 hone2 hc2 hi2 hl2 hr2' =>
    rename_i base2 n2 cap2 cvs2
    obtain ⟨rfl, rfl, rfl⟩ := hc2
    have fin : ∀ {b : Bool}, (∀ X Y, eqGuard (if neq then .neq else .eql) t X Y cx (.slice none 0 0) = pure ()) →
        (binOp (if neq then .neq else .eql) t cx (.slice none 0 0) = if neq then (do pure (.bool (!(← Op.equal t cx (.slice none 0 0))))) else (do pure (.bool (← Op.equal t cx (.slice none 0 0))))) →
        (Op.equal t cx (.slice none 0 0)).run P w = .ok b w → Good P B g w o a (.bool (if neq then !b else b)) st := by
      intro b h1 h2 h3
      refine Good.pure hW (c := .bool (if neq then !b else b)) ?_ (.bool _)
      have := run_eqOp (P := P) (w := w) (h1 x y) h2 h3
      simp only [execOp, ho, hxe, hye, Sem.run_bind]
      rw [← Sem.run_bind]
      rw [this]; rfl
    cases hr1 with
    | lst hn hs hone hc himm hl hr' =>
      rename_i s l c base n cap cvs
      obtain ⟨hs0, hK⟩ := he
      cases base with
      | none =>
        have hle : l = [] := by
          have hcv : cvs = [] := by
            cases cvs with
            | nil => rfl
            | cons c0 r => obtain ⟨b0, o0, hb0, _⟩ := himm 0 c0 rfl; cases hb0
          rw [hcv, flat_length hs] at hl
          have : l.length = 0 := by
            rcases Nat.mul_eq_zero.1 (by simpa using hl) with h | h
            · exact h
            · exact absurd h hs0
          exact List.eq_nil_of_length_eq_zero this
        exact ⟨_, _, hK true (fun _ => hle) (fun _ => rfl), fin (b := true) (fun X Y => by cases neq <;> rfl) (by cases neq <;> rfl) (equal_of fun d => by simp [Op.equalIn, underlying, hu])⟩
      | some ad =>
        refine ⟨_, _, hK false (fun h => by cases h) (fun h => ?_), fin (b := false) (fun X Y => by cases neq <;> rfl) (by cases neq <;> rfl) (equal_of fun d => by simp [Op.equalIn, underlying, hu])⟩
        subst h; cases hc.1
    | ref hg hle =>
      have := fin (b := false) (fun X Y => by cases neq <;> rfl) (by cases neq <;> rfl) (equal_of fun d => by simp [Op.equalIn, underlying, hu])
      refine ⟨_, _, he, ?_⟩
      cases neq <;> simpa using this
    | _ => exact he.elim
def spare (z : V) (n k : Nat) : List V := (List.replicate (k - n) z.cells).flatten
section
variable {P : Program} {B : Env} {g : G} {st st' : St} {w : World} {o : Oper} {a : Act} {N : Nat} {fr : Fr} {v : V}
def appmOk (c : Cap) : Bool := match c with | .nil | .exact | .full => true | _ => false
theorem appm_run {t t2 e sz bytes : Nat} {ts : Array TypeId} {ty : TypeId} {l m : List V} {c : Cap} {base : Option Addr} {cap : Nat} {cy z : Value} {zv : V} {cvm : Array Value}
    (hts : ts[0]? = some t) (hts2 : ts[1]? = some t2) (E : ElemF P t sz bytes e z) (hzr : VRel g zv z) (hzn : zv.notTup = true)
    (hx : VRel g (.lst sz l c) (.slice base l.length cap)) (hW : WRel B g st w)
    (hcan : appmOk c = true) (hm : m ≠ []) (hroom : (l.length + m.length) * bytes ≤ 140737488355328) (hlenb : l.length + m.length ≤ 140737488355328)
    (hcy : (∃ d, P.underlying t2 = some d ∧ (∀ k, d = .int k → False) ∧ (∀ w1 : World, (Builtin.lenOf cy).run P w1 = .ok m.length w1) ∧
        (∀ w1 : World, w1.heap = w.heap → (Builtin.firstCells sz m.length cy).run P w1 = .ok cvm w1)) ∨
      (∃ k, P.underlying t2 = some (.int k) ∧ cy = .int .i64 m.length ∧ m.length * bytes ≤ 140737488355328 ∧ cvm = (if m.length * sz = 0 then #[] else Builtin.zeroCells z.cells m.length)))
    (hlm : LR (VRel g) (flat m) cvm.toList) (hom : ∀ v ∈ flat m, v.one = true) :
    ∃ nc, l.length + m.length ≤ nc ∧ ∃ g' c' w', (Builtin.append_ ts ty #[.slice base l.length cap, cy]).run P w = .ok c' w' ∧ VRel g' (.ref sz st.next 0 (l.length + m.length) nc) c' ∧
      WRel B g' (st.newC (flat l ++ flat m ++ spare zv (l.length + m.length) nc)) w' ∧ Step g w g' w' := by
  have hcap : cap = l.length := by
    cases hx with
    | lst hn hs hone hc himm hl hr' =>
      cases c with
      | nil => obtain ⟨_, h1, h2⟩ := hc; omega
      | exact => exact hc.2
      | full => exact hc.2
      | _ => simp [appmOk] at hcan
  have hmpos : 0 < m.length := List.length_pos_iff.2 hm
  have hfit : ¬ l.length + m.length ≤ cap := by omega
  obtain ⟨nc, hncd⟩ : ∃ nc, nc = (Question.appendCap (l.length + m.length) cap e).cut (w.tape w.drawn (Question.appendCap (l.length + m.length) cap e)) := ⟨_, rfl⟩
  have hnc : l.length + m.length ≤ nc := by rw [hncd]; simp [Question.cut]
  have hfor : (Question.appendCap (l.length + m.length) cap e).forced = false := rfl
  obtain ⟨cvo, _, ho2, ho3, hone, hs⟩ := src_cells (P := P) (st := st) (k := l.length) (m := l) (sz := sz) (by simp [elemsOf]) hx hW.drew (Nat.le_refl _)
  rw [List.take_length] at ho3
  have hnx := nextslicecap_le (need := l.length + m.length) (cap := cap) (by omega)
  have hbig : ¬ Builtin.nextslicecap (l.length + m.length) cap * bytes > 2 ^ 48 := by
    have : Builtin.nextslicecap (l.length + m.length) cap * bytes ≤ (2 * (l.length + m.length)) * bytes := Nat.mul_le_mul_right _ hnx
    rw [Nat.mul_assoc] at this
    omega
  have hmax : ¬ (((l.length : Int) + (m.length : Int)) > 9223372036854775807) := by omega
  have hzc : (Builtin.zeroCells z.cells (nc - (l.length + m.length))).toList = cflat (List.replicate (nc - (l.length + m.length)) z) := by
    rw [rep_cells E.zsize E.pos]
    simp [Builtin.zeroCells, E.zsize]
  have hsp : LR (VRel g) (spare zv (l.length + m.length) nc) (Builtin.zeroCells z.cells (nc - (l.length + m.length))).toList := by
    rw [hzc, spare, ← flat_rep]
    exact (LR.rep hzr _).flat
  have hones : ∀ v ∈ spare zv (l.length + m.length) nc, v.one = true := by
    rw [spare, ← flat_rep]
    exact ones_flat (LR.rep hzr _) fun v hv => by rw [List.eq_of_mem_replicate hv]; exact hzn
  have hn := hW.drew.newObj (cs := flat l ++ flat m ++ spare zv (l.length + m.length) nc) (cvs := cvo ++ cvm ++ Builtin.zeroCells z.cells (nc - (l.length + m.length))) e
    (by simp only [Array.toList_append]; exact (ho3.append hlm).append hsp)
    (by
      intro v hv
      rcases List.mem_append.1 hv with hv | hv
      · rcases List.mem_append.1 hv with hv | hv
        · exact hone v hv
        · exact hom v hv
      · exact hones v hv)
  refine ⟨nc, hnc, _, .slice (some ⟨w.heap.size, 0, none⟩) (l.length + m.length) nc, _, ?_, .ref ?_ hnc, hn.1, (Step.drew g w).trans hn.2⟩
  · have hold' := ho2 w.drew rfl
    rcases hcy with ⟨d, hd, hd2, hlen, hfirst⟩ | ⟨k, hk, rfl, hkb, rfl⟩
    · have hf := hfirst w.drew rfl
      have hlen' := hlen w
      simp [Builtin.append_, hd2, hts, hts2, run_underlying E.under, run_underlying hd, run_sizeOf_is E.size, hlen', hf, hfit, hfor, ← hncd, hold', E.info, E.ibytes, E.zero, hbig, hmax, newRow]
    · have hwrap : IntKind.i64.wrap (m.length : Int) = m.length := wrap_i64 (by omega) (by omega)
      have hne : ¬ m.length * sz = 0 := by
        intro h
        rcases Nat.mul_eq_zero.1 h with h | h
        · omega
        · exact E.pos h
      have hb1 : ¬ 281474976710656 < (m.length : Int) * (bytes : Int) := by
        have : ((m.length * bytes : Nat) : Int) ≤ 140737488355328 := by omega
        rw [Int.natCast_mul] at this
        omega
      have hb0 : ¬ (m.length : Int) < 0 := by omega
      simp [Builtin.append_, hts, hts2, run_underlying E.under, run_underlying hk, run_sizeOf_is E.size, asInt, asIntOf, E.info, E.ibytes, hwrap, E.zero, hfit, hfor, ← hncd, hold', hne, hb1, hb0, hbig, hmax, newRow]
  · show (upd g.obj st.next (some w.drew.heap.size)) st.next = some w.heap.size
    rw [upd_same]; rfl
def appmEl (st : St) (sz : Nat) (z : V) (zz : Bool) (b : V) : Option (List V) :=
  match zz, b with
  | false, b => elemsOf st sz b
  | true, .int .i64 n => if 0 ≤ n then some (List.replicate n.toNat z) else none
  | _, _ => none
def appmQ (sz bytes : Nat) (z : V) (zz : Bool) (a b : V) (st : St) (K : V → St → Prop) : Prop :=
  match a with
  | .lst s l c => s = sz ∧ appmOk c = true ∧ ∃ m, appmEl st sz z zz b = some m ∧ m ≠ [] ∧ (l.length + m.length) * (bytes + 1) ≤ 140737488355328 ∧
      ∀ k, l.length + m.length ≤ k → K (.ref sz st.next 0 (l.length + m.length) k) (st.newC (flat l ++ flat m ++ spare z (l.length + m.length) k))
  | _ => False
theorem zero_flat {P : Program} {g : G} {t s bytes e : Nat} {z' : Value} (E : ElemF P t s bytes e z') (j : Nat) :
    cflat (List.replicate j z') = (if j * s = 0 then #[] else Builtin.zeroCells z'.cells j).toList := by
  rw [rep_cells E.zsize E.pos]
  split
  · rename_i h; rw [h]; simp
  · simp [Builtin.zeroCells, E.zsize]
theorem sound_appm {t t2 : TypeId} {ts : Array TypeId} {x y : Operand} {x' y' : AO} {sz bytes : Nat} {zv : V} {zz : Bool} {K : V → St → Prop} (ho : o.op = .call { callee := .builtin .append, args := #[x, y], argTypes := ts }) (hts : ts[0]? = some t) (hts2 : ts[1]? = some t2)
    (hE : elemZero P t sz bytes = true) (hz : ∀ e, P.underlying t = some (.slice e) → zeroIs P e zv = true) (hzn : zv.notTup = true) (hn : (if zz then isIntT P t2 else notInt P t2) = true) (hx : chkO x x' = true) (hy : chkO y y' = true) (hF : FRel g N fr a.tmps) (hW : WRel B g st w)
    {p q : V} (hp : evalO fr x' = some p) (hq : evalO fr y' = some q) (he : appmQ sz bytes zv zz p q st K) : ∃ v st', K v st' ∧ Good P B g w o a v st' := by
  obtain ⟨e, z, E⟩ := elemZero_some hE
  obtain ⟨z', hz1, hz2⟩ := run_zero_is (hz e E.under) w
  have hzz : z' = z := by have := E.zero w; rw [hz1] at this; cases this; rfl
  subst hzz
  have hzr := cv_sound hz2 g
  have hr := chkO_sound hx hF hp
  have hr2 := chkO_sound hy hF hq
  generalize hxe : a.eval x = cx at hr
  generalize hye : a.eval y = cy at hr2
  cases hr with
  | lst hn' hs hone hc himm hl hr' =>
    rename_i s l c base n cap cvs
    subst hn'
    obtain ⟨rfl, hok, m, hm, hne, hb, hk⟩ := he
    have hb' : (l.length + m.length) * bytes + (l.length + m.length) ≤ 140737488355328 := by rw [← Nat.mul_succ]; exact hb
    cases zz with
    | false =>
      simp only [Bool.false_eq_true, if_false] at hn
      obtain ⟨d, hd, hd2⟩ := notInt_some hn
      have hm' : elemsOf st s q = some m := hm
      obtain ⟨cvm, h1, h2, h3, h4, h5⟩ := src_cells (P := P) hm' hr2 hW (Nat.le_refl _)
      rw [List.take_length] at h3
      obtain ⟨nc, hnc, g', c', w', hrun, hrel, hW', hS⟩ := appm_run (P := P) (ty := o.type) hts hts2 E hzr hzn (.lst rfl hs hone hc himm hl hr') hW hok hne (by omega) (by omega) (.inl ⟨d, hd, hd2, h1, h2⟩) h3 h4
      exact ⟨_, _, hk nc hnc, Good.step (c := c') (exec_call2 ho (fun cs => rfl) (by rw [hxe, hye]; exact hrun)) hrel hW' hS⟩
    | true =>
      simp only [if_true] at hn
      have hint : ∃ k, P.underlying t2 = some (.int k) := by
        unfold isIntT at hn; split at hn
        · rename_i k hk'; exact ⟨k, hk'⟩
        · cases hn
      obtain ⟨k, hk2⟩ := hint
      unfold appmEl at hm
      split at hm
      · rename_i h; cases h
      · rename_i j _
        split at hm
        · rename_i hj
          cases hm
          cases hr2
          have hjj : j = ((List.replicate j.toNat zv).length : Int) := by simp; omega
          have hrep : LR (VRel g) (List.replicate j.toNat zv) (List.replicate j.toNat z') := LR.rep hzr _
          have hfl := hrep.flat
          obtain ⟨nc, hnc, g', c', w', hrun, hrel, hW', hS⟩ := appm_run (P := P) (ty := o.type) (m := List.replicate j.toNat zv) (cy := .int .i64 j) (cvm := (if j.toNat * s = 0 then #[] else Builtin.zeroCells z'.cells j.toNat)) hts hts2 E hzr hzn (.lst rfl hs hone hc himm hl hr') hW hok hne (by omega) (by omega)
            (.inr ⟨k, hk2, by rw [← hjj], by rw [Nat.add_mul] at hb'; omega, by simp⟩) (by rw [← zero_flat (g := g) E]; exact hfl) (ones_flat hrep (fun v hv => by rw [List.eq_of_mem_replicate hv]; exact hzn))
          exact ⟨_, _, hk nc hnc, Good.step (c := c') (exec_call2 ho (fun cs => rfl) (by rw [hxe, hye]; exact hrun)) hrel hW' hS⟩
        · cases hm
      · cases hm
  | _ => exact he.elim
end
end Go.Sim
