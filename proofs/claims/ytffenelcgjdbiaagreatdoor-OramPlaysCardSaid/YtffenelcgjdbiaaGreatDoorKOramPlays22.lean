/- Merged by a program of mine (pack.py) out of my own texts; what is not used is left out. -/
import Derived.Test.YtffenelcgjdbiaaGreatDoorKOramPlays21
set_option linter.unusedVariables false
set_option linter.unusedSimpArgs false
namespace Go.Sim
open Go
section
variable {P : Program} {B : Env} {g : G} {st st' : St} {w : World} {o : Oper} {a : Act} {N : Nat} {fr : Fr} {v : V}
def elemZero (P : Program) (t sz bytes : Nat) : Bool :=
  match P.underlying t with
  | some (.slice e) => szIs P e sz && sz != 0 && bytesIs P e bytes && (match P.info? e with | some i => (match i.zero with | some z => z.cells.size == sz | none => false) | none => false)
  | _ => false
structure ElemF (P : Program) (t sz bytes e : Nat) (z : Value) : Prop where
  under : P.underlying t = some (.slice e)
  size : szIs P e sz = true
  pos : sz ≠ 0
  info : ∀ w, (typeInfo e).run P w = .ok ((P.info? e).getD default) w
  ibytes : ((P.info? e).getD default).bytes = bytes
  zero : ∀ w, (zeroValue e).run P w = .ok z w
  zsize : z.cells.size = sz
theorem elemZero_some {t sz bytes : Nat} (h : elemZero P t sz bytes = true) : ∃ e z, ElemF P t sz bytes e z := by
  unfold elemZero at h
  cases hu : P.underlying t with
  | none => simp [hu] at h
  | some d =>
    cases d with
    | slice e =>
      simp only [hu, Bool.and_eq_true, bne_iff_ne, ne_eq] at h
      obtain ⟨⟨⟨h1, h2⟩, h3⟩, h4⟩ := h
      cases hi : P.info? e with
      | none => simp [hi] at h4
      | some i =>
        cases hz : i.zero with
        | none => simp [hi, hz] at h4
        | some z =>
          refine ⟨e, z, hu, h1, h2, fun w => by simp [typeInfo, hi], ?_, fun w => by simp [zeroValue, typeInfo, hi, hz], by simpa [hi, hz] using h4⟩
          unfold bytesIs at h3
          simpa [hi] using h3
    | _ => simp [hu] at h
def notInt (P : Program) (t : TypeId) : Bool := match P.underlying t with | some (.int _) => false | some _ => true | none => false
theorem notInt_some {t : TypeId} (h : notInt P t = true) : ∃ d, P.underlying t = some d ∧ (∀ k, d = .int k → False) := by
  unfold notInt at h
  cases hu : P.underlying t with
  | none => simp [hu] at h
  | some d =>
    refine ⟨d, rfl, ?_⟩
    cases d <;> simp_all
theorem cap_ge {sz n : Nat} {c : Cap} {base : Option Addr} {cap : Nat} (hc : CapOk g sz n c base cap) : n ≤ cap := by
  cases c with
  | nil => obtain ⟨_, h1, h2⟩ := hc; omega
  | exact => obtain ⟨_, h2⟩ := hc; omega
  | tail t => obtain ⟨_, _, _, _, _, h2, _⟩ := hc; exact h2
  | unk => exact hc.2
  | full => obtain ⟨_, h2⟩ := hc; omega
theorem wrap_i64 {n : Int} (h0 : -9223372036854775808 ≤ n) (h1 : n ≤ 9223372036854775807) : IntKind.i64.wrap n = n := by
  unfold IntKind.wrap
  simp [IntKind.bits, IntKind.signed]
  split <;> omega
theorem append_run {t t2 e sz bytes : Nat} {ts : Array TypeId} {ty : TypeId} {l m : List V} {c : Cap} {base : Option Addr} {cap : Nat} {cy z : Value} {cvm : Array Value}
    (hts : ts[0]? = some t) (hts2 : ts[1]? = some t2) (E : ElemF P t sz bytes e z)
    (hx : VRel g (.lst sz l c) (.slice base l.length cap)) (hW : WRel B g st w)
    (hcan : canApp st c = true ∨ m.isEmpty = true) (hroom : (l.length + m.length) * bytes ≤ 140737488355328) (hlenb : l.length + m.length ≤ 140737488355328)
    (hcy : (∃ d, P.underlying t2 = some d ∧ (∀ k, d = .int k → False) ∧ (∀ w1 : World, (Builtin.lenOf cy).run P w1 = .ok m.length w1) ∧
        (∀ w1 : World, w1.heap = w.heap → (Builtin.firstCells sz m.length cy).run P w1 = .ok cvm w1)) ∨
      (∃ k, P.underlying t2 = some (.int k) ∧ cy = .int .i64 m.length ∧ m.length * bytes ≤ 140737488355328 ∧ cvm = (if m.length * sz = 0 then #[] else Builtin.zeroCells z.cells m.length)))
    (hlm : LR (VRel g) (flat m) cvm.toList) (hom : ∀ v ∈ flat m, v.one = true) (hsm : ∀ e ∈ m, e.cells.length = sz) :
    ∃ g' c' w', (Builtin.append_ ts ty #[.slice base l.length cap, cy]).run P w = .ok c' w' ∧ VRel g' (.lst sz (l ++ m) (appCap st c m)) c' ∧ WRel B g' (appSt st c m) w' ∧ Step g w g' w' := by
  have hcap : l.length ≤ cap := by
    cases hx with
    | lst hn hs hone hc himm hl hr' => exact cap_ge hc
  have hnn : ∀ w1 : World, w1.heap = w.heap → True := fun _ _ => trivial
  by_cases hm : m = []
  · 
    subst hm
    refine ⟨g, .slice base l.length cap, w, ?_, by simpa [appCap] using hx, by simpa [appSt] using hW, .refl g w⟩
    rcases hcy with ⟨d, hd, hd2, hlen, hfirst⟩ | ⟨k, hk, rfl, _, rfl⟩
    · have hcv : cvm = #[] := by
        have := hlm.1
        simp [flat] at this
        exact Array.eq_empty_of_size_eq_zero (by simpa using this.symm)
      have hf := hfirst w rfl
      subst hcv
      have hlen' := hlen w
      simp only [List.length_nil] at hlen' hf
      cases base <;> simp [Builtin.append_, hts, hts2, run_underlying E.under, run_underlying hd, run_sizeOf_is E.size, hd2, hlen', hf, hcap, storeCells]
    · cases base <;> simp [Builtin.append_, hts, hts2, run_underlying E.under, run_underlying hk, run_sizeOf_is E.size, hcap, storeCells, asInt, asIntOf, E.info, E.ibytes, show IntKind.i64.wrap 0 = 0 by decide]
  · have hmpos : 0 < m.length := List.length_pos_iff.2 hm
    have hcan' : canApp st c = true := by
      rcases hcan with h | h
      · exact h
      · simp at h; exact absurd h hm
    have hwrap : IntKind.i64.wrap (m.length : Int) = m.length := wrap_i64 (by omega) (by omega)
    by_cases hfit : l.length + m.length ≤ cap
    · obtain ⟨ad, g', w', hb, hst, hrel, hW', hS⟩ := append_inplace (P := P) E.pos hx hW hm hcan' hfit hlm hom hsm
      subst hb
      refine ⟨g', _, w', ?_, hrel, hW', hS⟩
      have hst' := hst w rfl
      rcases hcy with ⟨d, hd, hd2, hlen, hfirst⟩ | ⟨k, hk, rfl, hkb, rfl⟩
      · have hf := hfirst w rfl
        have hlen' := hlen w
        simp [Builtin.append_, hd2, hts, hts2, run_underlying E.under, run_underlying hd, run_sizeOf_is E.size, hlen', hf, hfit, hst']
      · have hne : ¬ m.length * sz = 0 := by
          intro h
          rcases Nat.mul_eq_zero.1 h with h | h
          · omega
          · exact E.pos h
        rw [if_neg hne] at hst'
        have hb1 : ¬ 281474976710656 < (m.length : Int) * (bytes : Int) := by
          have : ((m.length * bytes : Nat) : Int) ≤ 140737488355328 := by omega
          rw [Int.natCast_mul] at this
          omega
        have hb0 : ¬ (m.length : Int) < 0 := by omega
        simp [Builtin.append_, hts, hts2, run_underlying E.under, run_underlying hk, run_sizeOf_is E.size, asInt, asIntOf, E.info, E.ibytes, hwrap, E.zero, hfit, hst', hne, hb1, hb0]
    · have hneed : l.length + m.length < 2 ^ 63 := by omega
      obtain ⟨nc, hncd⟩ : ∃ nc, nc = (Question.appendCap (l.length + m.length) cap e).cut (w.tape w.drawn (Question.appendCap (l.length + m.length) cap e)) := ⟨_, rfl⟩
      have hnc : l.length + m.length ≤ nc := by rw [hncd]; simp [Question.cut]
      have hfor : (Question.appendCap (l.length + m.length) cap e).forced = false := rfl
      obtain ⟨cvo, hold, g', hrel, hW', hS⟩ := append_new (P := P) (e := e) (newCap := nc) E.pos hx hW.drew hm hcan' hnc hlm hom hsm E.zsize
      have hnx := nextslicecap_le (need := l.length + m.length) (cap := cap) (by omega)
      have hbig : ¬ Builtin.nextslicecap (l.length + m.length) cap * bytes > 2 ^ 48 := by
        have : Builtin.nextslicecap (l.length + m.length) cap * bytes ≤ (2 * (l.length + m.length)) * bytes := Nat.mul_le_mul_right _ hnx
        rw [Nat.mul_assoc] at this
        omega
      have hmax : ¬ (((l.length : Int) + (m.length : Int)) > 9223372036854775807) := by omega
      refine ⟨g', .slice (some ⟨w.heap.size, 0, none⟩) (l.length + m.length) nc, _, ?_, hrel, hW', (Step.drew g w).trans hS⟩
      have hold' := hold w.drew rfl
      rcases hcy with ⟨d, hd, hd2, hlen, hfirst⟩ | ⟨k, hk, rfl, hkb, rfl⟩
      · have hf := hfirst w.drew rfl
        have hlen' := hlen w
        simp [Builtin.append_, hd2, hts, hts2, run_underlying E.under, run_underlying hd, run_sizeOf_is E.size, hlen', hf, hfit, hfor, ← hncd, hold', E.info, E.ibytes, E.zero, hbig, hmax, newRow]
      · have hne : ¬ m.length * sz = 0 := by
          intro h
          rcases Nat.mul_eq_zero.1 h with h | h
          · omega
          · exact E.pos h
        have hb1 : ¬ 281474976710656 < (m.length : Int) * (bytes : Int) := by
          have : ((m.length * bytes : Nat) : Int) ≤ 140737488355328 := by omega
          rw [Int.natCast_mul] at this
          omega
        have hb0 : ¬ (m.length : Int) < 0 := by omega
        simp [Builtin.append_, hts, hts2, run_underlying E.under, run_underlying hk, run_sizeOf_is E.size, asInt, asIntOf, E.info, E.ibytes, hwrap, E.zero, hfit, hfor, ← hncd, hold', hne, hb1, hb0, hbig, hmax, newRow]
end
end Go.Sim
