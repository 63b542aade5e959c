/- Merged by a program of mine (pack.py) out of my own texts; what is not used is left out. -/
import Derived.Test.YtffenelcgjdbiaaGreatDoorKOramPlays16
set_option linter.unusedVariables false
set_option linter.unusedSimpArgs false
namespace Go.Sim
open Go
section
variable {P : Program} {B : Env} {g : G} {st st' : St} {w : World} {o : Oper} {a : Act} {N : Nat} {fr : Fr} {v : V}
def kindIs (P : Program) (t : TypeId) (k : Nat) : Bool :=
  match P.underlying t, k with
  | some .bool, 0 => true
  | some (.pointer _), 1 => true
  | some (.map ..), 2 => true
  | some (.slice _), 3 => true
  | _, _ => false
theorem kindIs_bool {t : TypeId} (h : kindIs P t 0 = true) : P.underlying t = some .bool := by
  unfold kindIs at h; split at h <;> simp_all
theorem kindIs_ptr {t : TypeId} (h : kindIs P t 1 = true) : ∃ e, P.underlying t = some (.pointer e) := by
  unfold kindIs at h; split at h <;> simp_all
theorem kindIs_map {t : TypeId} (h : kindIs P t 2 = true) : ∃ e f, P.underlying t = some (.map e f) := by
  unfold kindIs at h; split at h <;> simp_all
theorem kindIs_slice {t : TypeId} (h : kindIs P t 3 = true) : ∃ e, P.underlying t = some (.slice e) := by
  unfold kindIs at h; split at h <;> simp_all
theorem run_eqOp {neq : Bool} {t : TypeId} {X Y : Operand} {x y : Value} {b : Bool} (hg : eqGuard (if neq then .neq else .eql) t X Y x y = pure ())
    (hi : binOp (if neq then .neq else .eql) t x y = if neq then (do pure (.bool (!(← Op.equal t x y)))) else (do pure (.bool (← Op.equal t x y))))
    (he : (Op.equal t x y).run P w = .ok b w) :
    (do eqGuard (if neq then .neq else .eql) t X Y x y; binOp (if neq then .neq else .eql) t x y : Sem Value).run P w = .ok (.bool (if neq then !b else b)) w := by
  rw [hg, hi]
  cases neq <;> simp [he]
theorem equal_of {t : TypeId} {x y : Value} {b : Bool} (h : ∀ d, (Op.equalIn (d + 1) t x y).run P w = .ok b w) : (Op.equal t x y).run P w = .ok b w := h 9999
theorem sound_eqv {neq : Bool} {t u : TypeId} {k : Nat} {x y : Operand} {x' y' : AO} (ho : o.op = .binOp (if neq then .neq else .eql) t x y u) (hk : kindIs P t k = true)
    (hx : chkO x x' = true) (hy : chkO y y' = true)
    (hF : FRel g N fr a.tmps) (hW : WRel B g st w)
    (he : evalA (.eqv k neq x' y') fr st = some (v, st')) : Good P B g w o a v st' := by
  simp only [evalA, Option.bind_eq_some_iff] at he
  obtain ⟨p, hp, q, hq, he⟩ := he
  have hr1 := chkO_sound hx hF hp
  have hr2 := chkO_sound hy hF hq
  by_cases hcls : cls p = k
  case neg => rw [if_pos hcls] at he; cases he
  rw [if_neg (fun h => h hcls)] at he
  have hkk := hcls.symm
  generalize hxe : a.eval x = cx at hr1
  generalize hye : a.eval y = cy at hr2
  have fin : ∀ {b : Bool}, eqGuard (if neq then .neq else .eql) t x y cx cy = pure () →
      (binOp (if neq then .neq else .eql) t cx cy = if neq then (do pure (.bool (!(← Op.equal t cx cy)))) else (do pure (.bool (← Op.equal t cx cy)))) →
      (Op.equal t cx cy).run P w = .ok b w → Good P B g w o a (.bool (if neq then !b else b)) st := by
    intro b h1 h2 h3
    refine Good.pure hW (c := .bool (if neq then !b else b)) ?_ (.bool _)
    have := run_eqOp (P := P) (w := w) h1 h2 h3
    simp only [execOp, ho, hxe, hye, Sem.run_bind]
    rw [← Sem.run_bind] 
    rw [this]; rfl
  cases hr1 with
  | bool b1 =>
    cases hr2 with
    | bool b2 =>
      simp only [cls] at hkk; subst hkk
      simp only [Option.some.injEq, Prod.mk.injEq] at he
      obtain ⟨rfl, rfl⟩ := he
      have := fin (b := b1 == b2) (by cases neq <;> rfl) (by cases neq <;> rfl) (equal_of fun d => by simp [Op.equalIn, underlying, kindIs_bool hk])
      cases neq
      · exact this
      · have e : (b1 != b2) = !(b1 == b2) := rfl
        simp only [if_true] at this ⊢; rw [e]; exact this
    | _ => simp at he
  | nilp =>
    cases hr2 with
    | nilp =>
      simp only [cls] at hkk; subst hkk
      obtain ⟨e, hu⟩ := kindIs_ptr hk
      simp only [Option.some.injEq, Prod.mk.injEq] at he
      obtain ⟨rfl, rfl⟩ := he
      have := fin (b := true) (by cases neq <;> rfl) (by cases neq <;> rfl) (equal_of fun d => by simp [Op.equalIn, underlying, hu])
      cases neq <;> simpa using this
    | _ => simp at he
  | ptr hg =>
    cases hr2 with
    | nilp =>
      simp only [cls] at hkk; subst hkk
      obtain ⟨e, hu⟩ := kindIs_ptr hk
      simp only [Option.some.injEq, Prod.mk.injEq] at he
      obtain ⟨rfl, rfl⟩ := he
      have := fin (b := false) (by cases neq <;> rfl) (by cases neq <;> rfl) (equal_of fun d => by simp [Op.equalIn, underlying, hu])
      cases neq <;> simpa using this
    | _ => simp at he
  | nilm =>
    cases hr2 with
    | nilm =>
      simp only [cls] at hkk; subst hkk
      obtain ⟨e, f, hu⟩ := kindIs_map hk
      simp only [Option.some.injEq, Prod.mk.injEq] at he
      obtain ⟨rfl, rfl⟩ := he
      have := fin (b := true) (by cases neq <;> rfl) (by cases neq <;> rfl) (equal_of fun d => by simp [Op.equalIn, underlying, hu])
      cases neq <;> simpa using this
    | _ => simp at he
  | map hg =>
    cases hr2 with
    | nilm =>
      simp only [cls] at hkk; subst hkk
      obtain ⟨e, f, hu⟩ := kindIs_map hk
      simp only [Option.some.injEq, Prod.mk.injEq] at he
      obtain ⟨rfl, rfl⟩ := he
      have := fin (b := false) (by cases neq <;> rfl) (by cases neq <;> rfl) (equal_of fun d => by simp [Op.equalIn, underlying, hu])
      cases neq <;> simpa using this
    | _ => simp at he
  | lst hn hs hone hc hi hl hr =>
    rename_i sz l c base n cap cvs
    cases hr2 with
    | lst hn2 hs2 hone2 hc2 hi2 hl2 hr2' =>
      rename_i sz2 l2 c2 base2 n2 cap2 cvs2
      simp only [cls] at hkk; subst hkk
      obtain ⟨e, hu⟩ := kindIs_slice hk
      have hbase : ∀ {b : Bool}, base2 = none → (base.isNone = b) → Good P B g w o a (.bool (if neq then !b else b)) st := by
        intro b h2 h1
        subst h2
        cases base with
        | none =>
          simp at h1; subst h1
          exact fin (by cases neq <;> rfl) (by cases neq <;> rfl) (equal_of fun d => by simp [Op.equalIn, underlying, hu])
        | some ad =>
          simp at h1; subst h1
          exact fin (by cases neq <;> rfl) (by cases neq <;> rfl) (equal_of fun d => by simp [Op.equalIn, underlying, hu])
      cases c2 with
      | nil =>
        cases c with
        | nil =>
          simp only [Option.some.injEq, Prod.mk.injEq] at he
          obtain ⟨rfl, rfl⟩ := he
          have := hbase (b := true) hc2.1 (by rw [hc.1]; rfl)
          cases neq <;> simpa using this
        | exact =>
          simp only [Option.some.injEq, Prod.mk.injEq] at he
          obtain ⟨rfl, rfl⟩ := he
          obtain ⟨⟨b0, o0, hb, _⟩, _⟩ := hc
          have := hbase (b := false) hc2.1 (by rw [hb]; rfl)
          cases neq <;> simpa using this
        | full => cases he
        | tail t0 =>
          simp only [Option.some.injEq, Prod.mk.injEq] at he
          obtain ⟨rfl, rfl⟩ := he
          obtain ⟨b0, o0, _, hb, _⟩ := hc
          have := hbase (b := false) hc2.1 (by rw [hb]; rfl)
          cases neq <;> simpa using this
        | unk => simp at he
      | _ => cases c <;> simp at he
    | _ => simp at he
  | ref hg hle =>
    cases hr2 with
    | lst hn2 hs2 hone2 hc2 hi2 hl2 hr2' =>
      rename_i sz2 l2 c2 base2 n2 cap2 cvs2
      simp only [cls] at hkk; subst hkk
      obtain ⟨e, hu⟩ := kindIs_slice hk
      cases c2 with
      | nil =>
        simp only [Option.some.injEq, Prod.mk.injEq] at he
        obtain ⟨rfl, rfl⟩ := he
        obtain ⟨rfl, _, _⟩ := hc2
        have := fin (b := false) (by cases neq <;> rfl) (by cases neq <;> rfl) (equal_of fun d => by simp [Op.equalIn, underlying, hu])
        cases neq <;> simpa using this
      | _ => simp at he
    | _ => simp at he
  | _ => simp at he
theorem sound_un {op : UnOp} {t : TypeId} {x : Operand} {x' : AO} (ho : o.op = .unOp op t x) (hx : chkO x x' = true) (hF : FRel g N fr a.tmps) (hW : WRel B g st w)
    (he : evalA (.un op x') fr st = some (v, st')) : Good P B g w o a v st' := by
  simp only [evalA, Option.bind_eq_some_iff] at he
  obtain ⟨u, hu, he⟩ := he
  have hr := chkO_sound hx hF hu
  generalize hxe : a.eval x = cx at hr
  cases hr with
  | bool b =>
    cases op <;> simp at he
    obtain ⟨rfl, rfl⟩ := he
    exact Good.pure hW (c := .bool !b) (by simp [execOp, ho, hxe, Op.unary]) (.bool _)
  | int k n =>
    cases op <;> simp at he
    obtain ⟨rfl, rfl⟩ := he
    refine Good.pure hW (c := .int k (k.wrap (0 - n))) (by simp [execOp, ho, hxe, Op.unary, Op.intArith]) ?_
    have : (0 : Int) - n = -n := by omega
    rw [this]; exact .int _ _
  | _ => cases op <;> simp at he
def intKindIs (P : Program) (t : TypeId) (k : IntKind) : Bool := match P.underlying t with | some (.int j) => j == k | _ => false
theorem sound_cint {s d : TypeId} {x : Operand} {x' : AO} {k : IntKind} (ho : o.op = .convert s d x) (hx : chkO x x' = true) (hk : intKindIs P d k = true) (hs : (P.underlying s).isSome = true) (hF : FRel g N fr a.tmps) (hW : WRel B g st w)
    (he : evalA (.cint k x') fr st = some (v, st')) : Good P B g w o a v st' := by
  simp only [evalA, Option.bind_eq_some_iff] at he
  obtain ⟨u, hu, he⟩ := he
  have hr := chkO_sound hx hF hu
  generalize hxe : a.eval x = cx at hr
  unfold intKindIs at hk
  split at hk
  · rename_i j hj
    simp at hk; subst hk
    obtain ⟨sd, hsd⟩ := Option.isSome_iff_exists.1 hs
    cases hr with
    | int k n =>
      simp at he
      obtain ⟨rfl, rfl⟩ := he
      exact Good.pure hW (c := .int j (j.wrap n)) (by simp [execOp, ho, hxe, convert, underlying, hj, hsd, Conv.intToInt]) (.int _ _)
    | _ => simp at he
  · cases hk
def strIs (P : Program) (t : TypeId) : Bool := match P.underlying t with | some .string => true | _ => false
theorem sound_cid {s d : TypeId} {x : Operand} {x' : AO} (ho : o.op = .convert s d x) (hx : chkO x x' = true) (hd : strIs P d = true) (hs : (P.underlying s).isSome = true) (hF : FRel g N fr a.tmps) (hW : WRel B g st w)
    (he : evalA (.cid x') fr st = some (v, st')) : Good P B g w o a v st' := by
  simp only [evalA, Option.bind_eq_some_iff] at he
  obtain ⟨u, hu, he⟩ := he
  have hr := chkO_sound hx hF hu
  generalize hxe : a.eval x = cx at hr
  have hd' : P.underlying d = some .string := by unfold strIs at hd; split at hd <;> simp_all
  obtain ⟨sd, hsd⟩ := Option.isSome_iff_exists.1 hs
  cases hr with
  | str hl =>
    rename_i l s0
    simp at he
    obtain ⟨rfl, rfl⟩ := he
    exact Good.pure hW (c := .string s0) (by simp [execOp, ho, hxe, convert, underlying, hd', hsd]) (.str hl)
  | _ => simp at he
def faIs (P : Program) (s : TypeId) (f off : Nat) : Bool :=
  match P.underlying s with
  | some (.struct fs) => (match fs[f]? with | some fl => fl.offset == off && (match P.info? fl.type with | some i => i.size != 0 | none => false) | none => false)
  | _ => false
theorem sound_fa {s : TypeId} {x : Operand} {x' : AO} {f off : Nat} (ho : o.op = .fieldAddr s x f) (hx : chkO x x' = true) (hf : faIs P s f off = true) (hF : FRel g N fr a.tmps) (hW : WRel B g st w)
    (he : evalA (.fa off x') fr st = some (v, st')) : Good P B g w o a v st' := by
  simp only [evalA, Option.bind_eq_some_iff] at he
  obtain ⟨u, hu, he⟩ := he
  have hr := chkO_sound hx hF hu
  generalize hxe : a.eval x = cx at hr
  have hrun : ∀ b o0, (Instr.fieldAt s (.pointer (some ⟨b, o0, none⟩)) f).run P w = .ok (.pointer (some ⟨b, o0 + off, none⟩)) w := by
    intro b o0
    unfold faIs at hf
    split at hf
    · rename_i fs hfs
      split at hf
      · rename_i fl hfl
        simp only [Bool.and_eq_true, beq_iff_eq] at hf
        obtain ⟨h1, h2⟩ := hf
        split at h2
        · rename_i i hi
          have hne : i.size ≠ 0 := by simpa using h2
          simp [Instr.fieldAt, underlying, hfs, hfl, Instr.sureAddr, fieldPlace, sizeOf, typeInfo, hi, hne, Addr.add, h1]
          try (split <;> simp_all)
        · cases h2
      · cases hf
    · cases hf
  cases hr with
  | ptr hg =>
    rename_i id o0 b
    simp at he
    obtain ⟨rfl, rfl⟩ := he
    exact Good.pure hW (by simp [execOp, ho, hxe, hrun]) (.ptr hg)
  | ep ho' hi hl hr' =>
    rename_i cs b o0 cvs
    by_cases hle : off ≤ cs.length
    · simp only [if_pos hle, Option.some.injEq, Prod.mk.injEq] at he
      obtain ⟨rfl, rfl⟩ := he
      have hlr : LR (VRel g) cs cvs := ⟨hl, hr'⟩
      have hd := hlr.drop off
      refine Good.pure hW (c := .pointer (some ⟨b, o0 + off, none⟩)) (by simp [execOp, ho, hxe, hrun]) (.ep (cvs := cvs.drop off) (fun v hv => ho' v (List.mem_of_mem_drop hv)) ?_ hd.1 hd.2)
      intro j c hj
      rw [List.getElem?_drop] at hj
      obtain ⟨b2, o2, hb, himm⟩ := hi _ c hj
      simp only [Option.some.injEq, Addr.mk.injEq] at hb
      obtain ⟨rfl, rfl, _⟩ := hb
      exact ⟨b, o0 + off, rfl, by rw [Nat.add_assoc]; exact himm⟩
    · simp only [if_neg hle] at he; cases he
  | _ => simp at he
def partIs (P : Program) (t : TypeId) (n : Nat) (agg : Bool) : Bool := szIs P t n && aggIs P t agg && (agg || n == 1)
theorem run_part {t : TypeId} {n off : Nat} {agg : Bool} {cs : List V} {cvs : Array Value} {u : V} (hp : partIs P t n agg = true) (hl : LR (VRel g) cs cvs.toList) (hone : ∀ v ∈ cs, v.one = true)
    (hle : off + n ≤ cs.length) (h : aggOr agg ((cs.drop off).take n) = some u) : ∃ c, (part t cvs off).run P w = .ok c w ∧ VRel g u c := by
  simp only [partIs, Bool.and_eq_true, Bool.or_eq_true, beq_iff_eq] at hp
  obtain ⟨⟨hsz, hagg⟩, hn⟩ := hp
  have hk := aggOr_sound h ((hl.drop off).take n) (fun v hv => hone v (List.mem_of_mem_drop (List.mem_of_mem_take hv)))
  cases agg
  · obtain ⟨c, hc, hr⟩ := hk.2 rfl
    refine ⟨c, ?_, hr⟩
    rw [List.getElem?_take] at hc
    split at hc
    · rw [List.getElem?_drop, Nat.add_zero] at hc
      have : cvs[off]? = some c := by simpa using hc
      simp [part, run_isAgg_is hagg, this]
    · cases hc
  · refine ⟨_, ?_, hk.1 rfl⟩
    simp only [part, Sem.run_bind, run_isAgg_is hagg, Result.andThen_ok, if_true, run_sizeOf_is hsz, Sem.run_pure]
    congr 2
    apply Array.toList_inj.1
    simp only [Array.toList_extract, List.extract_eq_take_drop]
    congr 1
    omega
theorem sound_fld {s : TypeId} {x : Operand} {x' : AO} {f off n : Nat} {agg : Bool} {fs : Array Field} {fl : Field} (ho : o.op = .field s x f) (hx : chkO x x' = true) (hfs : P.underlying s = some (.struct fs)) (hfl : fs[f]? = some fl)
    (hoff : fl.offset = off) (hp : partIs P fl.type n agg = true) (hF : FRel g N fr a.tmps) (hW : WRel B g st w)
    (he : evalA (.fld off n agg x') fr st = some (v, st')) : Good P B g w o a v st' := by
  simp only [evalA, Option.bind_eq_some_iff] at he
  obtain ⟨u, hu, he⟩ := he
  have hr := chkO_sound hx hF hu
  generalize hxe : a.eval x = cx at hr
  cases hr with
  | agg hone hl hr' =>
    rename_i cs cvs
    by_cases hle : off + n ≤ cs.length
    · simp only [if_pos hle, Option.bind_eq_some_iff, Option.some.injEq, Prod.mk.injEq] at he
      obtain ⟨u, hag, rfl, rfl⟩ := he
      obtain ⟨c, hrun, hrel⟩ := run_part (P := P) (w := w) hp ⟨hl, hr'⟩ hone hle hag
      subst hoff
      exact Good.pure hW (c := c) (by simp [execOp, ho, hxe, Instr.field, underlying, hfs, hfl, asAgg, hrun]) hrel
    · simp only [if_neg hle] at he; cases he
  | _ => simp at he
theorem sound_ext {x : Operand} {x' : AO} {i : Nat} (ho : o.op = .extract x i) (hx : chkO x x' = true) (hF : FRel g N fr a.tmps) (hW : WRel B g st w)
    (he : evalA (.ext x' i) fr st = some (v, st')) : Good P B g w o a v st' := by
  simp only [evalA, Option.bind_eq_some_iff] at he
  obtain ⟨u, hu, he⟩ := he
  have hr := chkO_sound hx hF hu
  generalize hxe : a.eval x = cx at hr
  cases hr with
  | tup hl hr' =>
    rename_i cs cvs
    simp only [Option.bind_eq_some_iff, Option.some.injEq, Prod.mk.injEq] at he
    obtain ⟨u, hi, rfl, rfl⟩ := he
    obtain ⟨c, hc, hrel⟩ := LR.get (R := VRel g) ⟨hl, hr'⟩ hi
    have : cvs[i]? = some c := by simpa using hc
    exact Good.pure hW (c := c) (by simp [execOp, ho, hxe, Instr.extract, this]) hrel
  | _ => simp at he
theorem sound_mkf {f : FuncId} {caps : Array Operand} {caps' : List AO} (ho : o.op = .makeFunc (.func f) #[] caps) (hx : chkOs caps.toList caps' = true) (hF : FRel g N fr a.tmps) (hW : WRel B g st w)
    (he : evalA (.mkf f caps') fr st = some (v, st')) : Good P B g w o a v st' := by
  simp only [evalA, Option.bind_eq_some_iff, Option.some.injEq, Prod.mk.injEq] at he
  obtain ⟨vs, hvs, rfl, rfl⟩ := he
  have hl := chkOs_sound hx hF hvs
  refine Good.pure hW (c := .func (.func f) #[] (caps.map a.eval)) (by simp [execOp, ho, Instr.makeFunc]) (.fn (by simpa using hl.1) ?_)
  intro i v c hv hc
  exact hl.2 i v c hv (by simpa using hc)
theorem sound_mki {t : TypeId} {x : Operand} {x' : AO} (ho : o.op = .makeInterface t x) (hx : chkO x x' = true) (ht : (match P.underlying t with | some (.interface _) => false | some _ => true | none => false) = true) (hF : FRel g N fr a.tmps) (hW : WRel B g st w)
    (he : evalA (.mki t x') fr st = some (v, st')) : Good P B g w o a v st' := by
  simp only [evalA, Option.bind_eq_some_iff, Option.some.injEq, Prod.mk.injEq] at he
  obtain ⟨u, hu, rfl, rfl⟩ := he
  have hr := chkO_sound hx hF hu
  refine Good.pure hW (c := .iface t (a.eval x)) ?_ (.iface hr)
  cases hd : P.underlying t with
  | none => simp [hd] at ht
  | some d => cases d <;> simp [hd] at ht <;> simp [execOp, ho, Instr.makeInterface, underlying, hd]
theorem sound_mkm {t : TypeId} (ho : o.op = .makeMap t none) (hW : WRel B g st w)
    (he : evalA .mkm fr st = some (v, st')) : Good P B g w o a v st' := by
  simp only [evalA, Option.some.injEq, Prod.mk.injEq] at he
  obtain ⟨rfl, rfl⟩ := he
  have hn := hW.newMap
  exact Good.step (c := .map (some w.heap.size)) (by simp [execOp, ho, Instr.makeMap]) (.map (by simp)) hn.1 hn.2
end
end Go.Sim
