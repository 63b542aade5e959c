/- Merged by a program of mine (pack.py) out of my own texts; what is not used is left out. -/
import Derived.Test.YtffenelcgjdbiaaGreatDoorKOramPlays34
set_option linter.unusedVariables false
set_option linter.unusedSimpArgs false
namespace Go.Sim
open Go
structure St.leX (S : Nat → Prop) (a b : St) : Prop where
  next : a.next ≤ b.next
  cells : ∀ id, id < a.next → ¬ S id → b.cells id = a.cells id
  maps : ∀ id, id < a.next → ¬ S id → b.maps id = a.maps id
  tok : ∀ id, id < a.next → ¬ S id → b.tok id = a.tok id
theorem St.leX.refl (S : Nat → Prop) (a : St) : a.leX S a := ⟨Nat.le_refl _, fun _ _ _ => rfl, fun _ _ _ => rfl, fun _ _ _ => rfl⟩
theorem St.leX.trans {S : Nat → Prop} {a b c : St} (h : a.leX S b) (k : b.leX S c) : a.leX S c :=
  ⟨Nat.le_trans h.next k.next, fun i hi hs => by rw [k.cells i (Nat.lt_of_lt_of_le hi h.next) hs, h.cells i hi hs], fun i hi hs => by rw [k.maps i (Nat.lt_of_lt_of_le hi h.next) hs, h.maps i hi hs],
    fun i hi hs => by rw [k.tok i (Nat.lt_of_lt_of_le hi h.next) hs, h.tok i hi hs]⟩
theorem St.leX.mono {S T : Nat → Prop} {a b : St} (h : a.leX S b) (k : ∀ i, i < a.next → S i → T i) : a.leX T b :=
  ⟨h.next, fun i hi hs => h.cells i hi fun x => hs (k i hi x), fun i hi hs => h.maps i hi fun x => hs (k i hi x), fun i hi hs => h.tok i hi fun x => hs (k i hi x)⟩
theorem St.le.leX {a b : St} (h : a.le b) (S : Nat → Prop) : a.leX S b := ⟨h.next, fun i hi _ => h.cells i hi, fun i hi _ => h.maps i hi, fun i hi _ => h.tok i hi⟩
theorem St.leX.le {S : Nat → Prop} {a b : St} (h : a.leX S b) (k : ∀ i, i < a.next → ¬ S i) : a.le b := ⟨h.next, fun i hi => h.cells i hi (k i hi), fun i hi => h.maps i hi (k i hi), fun i hi => h.tok i hi (k i hi)⟩
theorem St.leX.getC {S : Nat → Prop} {a b : St} (h : a.leX S b) {id : Nat} {cs : List V} (hs : ¬ S id) (hc : a.cells id = some cs) : b.cells id = some cs := by rw [h.cells id (St.lt_of_cells hc) hs, hc]
theorem St.leX.getT {S : Nat → Prop} {a b : St} (h : a.leX S b) {id : Nat} (hs : ¬ S id) (hc : a.tok id = true) : b.tok id = true := by rw [h.tok id (St.lt_of_tok hc) hs, hc]
theorem St.leX_setC (a : St) (id : Nat) (cs : List V) : a.leX (· = id) (a.setC id cs) := ⟨Nat.le_refl _, fun i _ hs => upd_ne _ _ hs, fun _ _ _ => rfl, fun _ _ _ => rfl⟩
theorem St.leX_setM (a : St) (id : Nat) (m : List (V × V)) : a.leX (· = id) (a.setM id m) := ⟨Nat.le_refl _, fun _ _ _ => rfl, fun i _ hs => upd_ne _ _ hs, fun _ _ _ => rfl⟩
@[simp] theorem setC_cells (a : St) (id : Nat) (cs : List V) (j : Nat) : (a.setC id cs).cells j = if j = id then (a.cells id).map fun _ => cs else a.cells j := rfl
@[simp] theorem setC_maps (a : St) (id : Nat) (cs : List V) : (a.setC id cs).maps = a.maps := rfl
@[simp] theorem setC_tok (a : St) (id : Nat) (cs : List V) : (a.setC id cs).tok = a.tok := rfl
@[simp] theorem setC_next (a : St) (id : Nat) (cs : List V) : (a.setC id cs).next = a.next := rfl
@[simp] theorem newC_cells (a : St) (cs : List V) (j : Nat) : (a.newC cs).cells j = if j = a.next then some cs else a.cells j := rfl
@[simp] theorem newC_maps (a : St) (cs : List V) : (a.newC cs).maps = a.maps := rfl
@[simp] theorem newC_tok (a : St) (cs : List V) : (a.newC cs).tok = a.tok := rfl
@[simp] theorem newC_next (a : St) (cs : List V) : (a.newC cs).next = a.next + 1 := rfl
@[simp] theorem newT_next (a : St) : a.newT.next = a.next + 1 := rfl
@[simp] theorem newM_next (a : St) : a.newM.next = a.next + 1 := rfl
@[simp] theorem newM_cells (a : St) : a.newM.cells = a.cells := rfl
@[simp] theorem newM_maps (a : St) (j : Nat) : a.newM.maps j = if j = a.next then some [] else a.maps j := rfl
@[simp] theorem setM_maps (a : St) (id : Nat) (m : List (V × V)) (j : Nat) : (a.setM id m).maps j = if j = id then (a.maps id).map fun _ => m else a.maps j := rfl
@[simp] theorem setM_cells (a : St) (id : Nat) (m : List (V × V)) : (a.setM id m).cells = a.cells := rfl
@[simp] theorem setM_tok (a : St) (id : Nat) (m : List (V × V)) : (a.setM id m).tok = a.tok := rfl
@[simp] theorem setM_next (a : St) (id : Nat) (m : List (V × V)) : (a.setM id m).next = a.next := rfl
@[simp] theorem killC_cells (a : St) (id j : Nat) : (a.killC id).cells j = if j = id then none else a.cells j := rfl
@[simp] theorem killC_maps (a : St) (id : Nat) : (a.killC id).maps = a.maps := rfl
@[simp] theorem killC_tok (a : St) (id : Nat) : (a.killC id).tok = a.tok := rfl
@[simp] theorem killC_next (a : St) (id : Nat) : (a.killC id).next = a.next := rfl
theorem RCall.frz {P : Program} {f : FuncId} {args : List V} {st : St} {Q : Res → St → Prop} {sz id off len cap : Nat} (agg : Bool)
    (h : RCall P f args st fun r st' => match r with
      | .ret (.ref sz id off len cap) => ∃ cs l, st'.cells id = some cs ∧ frzL agg sz off len cap cs = some l ∧ Q (.ret (.lst sz l (.tail st'.next))) (st'.killC id).newT
      | r => Q r st') : RCall P f args st Q := by
  intro B g w cargs hW hA
  refine (h B g w cargs hW hA).mono ?_
  rintro e w' ⟨g', st', r, hE, hW', hS, hq⟩
  cases r with
  | pan v => exact ⟨g', st', .pan v, hE, hW', hS, hq⟩
  | ret v =>
    cases v with
    | ref sz id off len cap =>
      obtain ⟨cs, l, h1, h2, h3⟩ := hq
      cases e with
      | returned c =>
        have hv : VRel g' (.ref sz id off len cap) c := hE
        cases hv with
        | ref ho hc =>
          obtain ⟨g2, hW2, hS2, hv, _⟩ := hW'.frz h1 ho h2
          exact ⟨g2, _, .ret _, hv, hW2, hS.trans hS2, h3⟩
      | _ => exact hE.elim
    | _ => exact ⟨g', st', .ret _, hE, hW', hS, hq⟩
theorem wrap_u64 {n : Int} (h0 : 0 ≤ n) (h1 : n < 18446744073709551616) : IntKind.u64.wrap n = n := by
  unfold IntKind.wrap
  simp [IntKind.bits, IntKind.signed]
  omega
theorem wrap_u32 {n : Int} (h0 : 0 ≤ n) (h1 : n < 4294967296) : IntKind.u32.wrap n = n := by
  unfold IntKind.wrap
  simp [IntKind.bits, IntKind.signed]
  omega
theorem wrap_u8 {n : Int} (h0 : 0 ≤ n) (h1 : n < 256) : IntKind.u8.wrap n = n := by
  unfold IntKind.wrap
  simp [IntKind.bits, IntKind.signed]
  omega
theorem wrap_u8_mod (n : Int) : IntKind.u8.wrap n = n % 256 := by simp [IntKind.wrap, IntKind.bits, IntKind.signed]
theorem wrap_u32_mod (n : Int) : IntKind.u32.wrap n = n % 4294967296 := by simp [IntKind.wrap, IntKind.bits, IntKind.signed]
theorem wrap_u64_mod (n : Int) : IntKind.u64.wrap n = n % 18446744073709551616 := by simp [IntKind.wrap, IntKind.bits, IntKind.signed]
end Go.Sim
