/- Merged by a program of mine (pack.py) out of my own texts; what is not used is left out. -/
import Derived.Test.YtffenelcgjdbiaaGreatDoorKOramPlays17
set_option linter.unusedVariables false
set_option linter.unusedSimpArgs false
namespace Go.Sim
open Go
section
variable {P : Program} {B : Env} {g : G} {st st' : St} {w : World} {o : Oper} {a : Act} {N : Nat} {fr : Fr} {v : V}
theorem intOf_rel {v : V} {c : Value} {i : Int} (h : intOf? v = some i) (hr : VRel g v c) : ∃ k, c = .int k i := by
  cases hr <;> simp [intOf?] at h
  subst h; exact ⟨_, rfl⟩
theorem inRange_some {i : Int} {n k : Nat} (h : inRange i n = some k) : 0 ≤ i ∧ i < n ∧ i.toNat = k := by
  unfold inRange at h
  split at h
  · rename_i hh; simp at h; exact ⟨hh.1, hh.2, h⟩
  · cases h
theorem inBound_some {i : Int} {n k : Nat} (h : inBound i n = some k) : 0 ≤ i ∧ i ≤ n ∧ i.toNat = k := by
  unfold inBound at h
  split at h
  · rename_i hh; simp at h; exact ⟨hh.1, hh.2, h⟩
  · cases h
theorem add_addr (b o n : Nat) : Addr.add ⟨b, o, none⟩ n = ⟨b, o + n, none⟩ := Addr.add_lit b o n
theorem flat_get {sz : Nat} : ∀ {l : List V}, (∀ e ∈ l, e.cells.length = sz) → ∀ {i : Nat} {e : V}, l[i]? = some e → ((flat l).drop (i * sz)).take sz = e.cells
  | [], _, i, e, h => by simp at h
  | x :: l, hs, 0, e, h => by
    simp at h; subst h
    have : x.cells.length = sz := hs x (by simp)
    simp [flat, ← this]
  | x :: l, hs, i + 1, e, h => by
    have hx : x.cells.length = sz := hs x (by simp)
    have ih := flat_get (l := l) (fun y hy => hs y (by simp [hy])) (i := i) (e := e) (by simpa using h)
    have e1 : (i + 1) * sz = x.cells.length + i * sz := by rw [hx, Nat.add_mul, Nat.one_mul, Nat.add_comm]
    show ((x.cells ++ flat l).drop ((i + 1) * sz)).take sz = _
    rw [e1, List.drop_append]
    simp only [Nat.add_sub_cancel_left]
    rw [List.drop_eq_nil_of_le (by omega), List.nil_append]
    exact ih
theorem flat_length {sz : Nat} : ∀ {l : List V}, (∀ e ∈ l, e.cells.length = sz) → (flat l).length = l.length * sz
  | [], _ => by simp [flat]
  | x :: l, hs => by
    have hx : x.cells.length = sz := hs x (by simp)
    have ih := flat_length (l := l) (fun y hy => hs y (by simp [hy]))
    show (x.cells ++ flat l).length = _
    rw [List.length_append, hx, ih, List.length_cons, Nat.add_mul, Nat.one_mul, Nat.add_comm]
theorem flat_append (l m : List V) : flat (l ++ m) = flat l ++ flat m := by simp [flat]
def sliceElem (P : Program) (t sz : Nat) : Bool := match P.underlying t with | some (.slice e) => szIs P e sz && sz != 0 | _ => false
theorem sliceElem_some {t sz : Nat} (h : sliceElem P t sz = true) : ∃ e, P.underlying t = some (.slice e) ∧ szIs P e sz = true ∧ sz ≠ 0 := by
  unfold sliceElem at h
  split at h
  · rename_i e he; simp at h; exact ⟨e, he, h.1, h.2⟩
  · cases h
def arrElem (P : Program) (t n sz : Nat) : Bool := match P.underlying t with | some (.array m e) => m == n && szIs P e sz && sz != 0 | _ => false
theorem arrElem_some {t n sz : Nat} (h : arrElem P t n sz = true) : ∃ e, P.underlying t = some (.array n e) ∧ szIs P e sz = true ∧ sz ≠ 0 := by
  unfold arrElem at h
  split at h
  · rename_i m e he; simp at h; obtain ⟨⟨rfl, h2⟩, h3⟩ := h; exact ⟨e, he, h2, h3⟩
  · cases h
theorem sound_ia {t : TypeId} {x i : Operand} {x' i' : AO} {sz : Nat} (ho : o.op = .indexAddr t x i) (hx : chkO x x' = true) (hi : chkO i i' = true) (ht : sliceElem P t sz = true) (hF : FRel g N fr a.tmps) (hW : WRel B g st w)
    (he : evalA (.ia sz x' i') fr st = some (v, st')) : Good P B g w o a v st' := by
  simp only [evalA, Option.bind_eq_some_iff] at he
  obtain ⟨u, hu, q, hq, j, hj, he⟩ := he
  obtain ⟨e, hte, hsz, hsz0⟩ := sliceElem_some ht
  obtain ⟨k, hk⟩ := intOf_rel hj (chkO_sound hi hF hq)
  have hr := chkO_sound hx hF hu
  generalize hxe : a.eval x = cx at hr
  cases hr with
  | lst hn hs hone hc himm hl hr' =>
    rename_i s l c base n cap cvs
    subst hn
    by_cases hss : s = sz
    · subst hss
      simp only [if_true, Option.bind_eq_some_iff, Option.some.injEq, Prod.mk.injEq] at he
      obtain ⟨m, hm, e', hget, rfl, rfl⟩ := he
      obtain ⟨h0, h1, h2⟩ := inRange_some hm
      have hmem := hs e' (List.mem_of_getElem? hget)
      have hlr : LR (VRel g) (flat l) cvs := ⟨hl, hr'⟩
      have hcell := flat_get hs hget
      have hsub := (hlr.drop (m * s)).take s
      rw [hcell] at hsub
      have hpos : 0 < ((cvs.drop (m * s)).take s).length := by rw [← hsub.1]; omega
      have h00 := List.getElem?_eq_getElem hpos
      have h01 : cvs[m * s + 0]? = some ((cvs.drop (m * s)).take s)[0] := by
        rw [List.getElem?_take, if_pos (by omega), List.getElem?_drop] at h00
        exact h00
      obtain ⟨b, o0, hb, _⟩ := himm _ _ h01
      subst hb
      refine Good.pure hW (c := .pointer (some ⟨b, o0 + m * s, none⟩)) ?_ (.ep (cvs := (cvs.drop (m * s)).take s) ?_ ?_ hsub.1 hsub.2)
      · simp [execOp, ho, hxe, hk, Instr.indexAt, asIntOf, underlying, hte, run_sizeOf_is hsz, h0, h1, h2, add_addr]
      · intro z hz
        rw [← hcell] at hz
        exact hone z (List.mem_of_mem_drop (List.mem_of_mem_take hz))
      · intro jj c' hjj
        rw [List.getElem?_take] at hjj
        split at hjj
        · rw [List.getElem?_drop] at hjj
          obtain ⟨b2, o2, hb2, hi2⟩ := himm _ _ hjj
          simp only [Option.some.injEq, Addr.mk.injEq] at hb2
          obtain ⟨rfl, rfl, _⟩ := hb2
          exact ⟨b, o0 + m * s, rfl, by rw [Nat.add_assoc]; exact hi2⟩
        · cases hjj
    · simp only [if_neg hss] at he; cases he
  | ref hg hlc =>
    rename_i s id off len cap b
    by_cases hss : s = sz
    · subst hss
      simp only [if_true, Option.bind_eq_some_iff, Option.some.injEq, Prod.mk.injEq] at he
      obtain ⟨m, hm, rfl, rfl⟩ := he
      obtain ⟨h0, h1, h2⟩ := inRange_some hm
      exact Good.pure hW (c := .pointer (some ⟨b, off + m * s, none⟩)) (by simp [execOp, ho, hxe, hk, Instr.indexAt, asIntOf, underlying, hte, run_sizeOf_is hsz, h0, h1, h2, add_addr]) (.ptr hg)
    · simp only [if_neg hss] at he; cases he
  | _ => simp at he
theorem sound_iaA {t : TypeId} {x i : Operand} {x' i' : AO} {n sz : Nat} (ho : o.op = .indexAddr t x i) (hx : chkO x x' = true) (hi : chkO i i' = true) (ht : arrElem P t n sz = true) (hF : FRel g N fr a.tmps) (hW : WRel B g st w)
    (he : evalA (.iaA n sz x' i') fr st = some (v, st')) : Good P B g w o a v st' := by
  simp only [evalA, Option.bind_eq_some_iff] at he
  obtain ⟨u, hu, q, hq, j, hj, he⟩ := he
  obtain ⟨e, hte, hsz, hsz0⟩ := arrElem_some ht
  obtain ⟨k, hk⟩ := intOf_rel hj (chkO_sound hi hF hq)
  have hr := chkO_sound hx hF hu
  generalize hxe : a.eval x = cx at hr
  cases hr with
  | ptr hg =>
    rename_i id off b
    simp only [Option.bind_eq_some_iff, Option.some.injEq, Prod.mk.injEq] at he
    obtain ⟨m, hm, rfl, rfl⟩ := he
    obtain ⟨h0, h1, h2⟩ := inRange_some hm
    exact Good.pure hW (c := .pointer (some ⟨b, off + m * sz, none⟩)) (by simp [execOp, ho, hxe, hk, Instr.indexAt, Instr.sureAddr, asIntOf, underlying, hte, run_sizeOf_is hsz, h0, h1, h2, add_addr]) (.ptr hg)
  | ep ho' himm hl hr' =>
    rename_i cs b o0 cvs
    simp only [Option.bind_eq_some_iff] at he
    obtain ⟨m, hm, he⟩ := he
    obtain ⟨h0, h1, h2⟩ := inRange_some hm
    by_cases hle : m * sz ≤ cs.length
    · simp only [if_pos hle, Option.some.injEq, Prod.mk.injEq] at he
      obtain ⟨rfl, rfl⟩ := he
      have hlr : LR (VRel g) cs cvs := ⟨hl, hr'⟩
      have hd := hlr.drop (m * sz)
      refine Good.pure hW (c := .pointer (some ⟨b, o0 + m * sz, none⟩)) (by simp [execOp, ho, hxe, hk, Instr.indexAt, Instr.sureAddr, asIntOf, underlying, hte, run_sizeOf_is hsz, h0, h1, h2, add_addr]) (.ep (cvs := cvs.drop (m * sz)) (fun v hv => ho' v (List.mem_of_mem_drop hv)) ?_ hd.1 hd.2)
      intro j c hj
      rw [List.getElem?_drop] at hj
      obtain ⟨b2, o2, hb, hi2⟩ := himm _ c hj
      simp only [Option.some.injEq, Addr.mk.injEq] at hb
      obtain ⟨rfl, rfl, _⟩ := hb
      exact ⟨b, o0 + m * sz, rfl, by rw [Nat.add_assoc]; exact hi2⟩
    · simp only [if_neg hle] at he; cases he
  | _ => simp at he
theorem sound_iaG {t : TypeId} {i : Operand} {i' : AO} {k n sz : Nat} {tcs : List V} {tab : List Value} (ho : o.op = .indexAddr t (.global k) i) (htab : (k, tab) ∈ B.gl) (hcs : cvs tcs tab = true) (hi : chkO i i' = true) (ht : arrElem P t n sz = true) (hF : FRel g N fr a.tmps) (hW : WRel B g st w)
    (he : evalA (.iaG k n sz tcs i') fr st = some (v, st')) : Good P B g w o a v st' := by
  simp only [evalA, Option.bind_eq_some_iff] at he
  obtain ⟨q, hq, j, hj, m, hm, he⟩ := he
  obtain ⟨e, hte, hsz, hsz0⟩ := arrElem_some ht
  obtain ⟨kk, hk⟩ := intOf_rel hj (chkO_sound hi hF hq)
  obtain ⟨h0, h1, h2⟩ := inRange_some hm
  by_cases hle : n * sz = tcs.length
  · simp only [if_pos hle, Option.some.injEq, Prod.mk.injEq] at he
    obtain ⟨rfl, rfl⟩ := he
    obtain ⟨hlr, hone⟩ := cvs_sound hcs g
    have hd := hlr.drop (m * sz)
    have hgl : a.eval (.global k) = .pointer (some ⟨k, 0, none⟩) := rfl
    refine Good.pure hW (c := .pointer (some ⟨k, 0 + m * sz, none⟩)) (by simp [execOp, ho, hgl, hk, Instr.indexAt, Instr.sureAddr, asIntOf, underlying, hte, run_sizeOf_is hsz, h0, h1, h2, add_addr]) (.ep (cvs := tab.drop (m * sz)) (fun v hv => hone v (List.mem_of_mem_drop hv)) ?_ hd.1 hd.2)
    intro j c hj
    rw [List.getElem?_drop] at hj
    exact ⟨k, 0 + m * sz, rfl, by rw [Nat.zero_add]; exact hW.glob k tab htab _ c hj⟩
  · simp only [if_neg hle] at he; cases he
theorem sound_ixA {t e : TypeId} {x i : Operand} {x' i' : AO} {n sz : Nat} {agg : Bool} (ho : o.op = .index t x i) (hx : chkO x x' = true) (hi : chkO i i' = true) (hte : P.underlying t = some (.array n e)) (hp : partIs P e sz agg = true) (hF : FRel g N fr a.tmps) (hW : WRel B g st w)
    (he : evalA (.ixA n sz agg x' i') fr st = some (v, st')) : Good P B g w o a v st' := by
  simp only [evalA, Option.bind_eq_some_iff] at he
  obtain ⟨u, hu, q, hq, j, hj, he⟩ := he
  have hsz : szIs P e sz = true := by simp only [partIs, Bool.and_eq_true] at hp; exact hp.1.1
  obtain ⟨k, hk⟩ := intOf_rel hj (chkO_sound hi hF hq)
  have hr := chkO_sound hx hF hu
  generalize hxe : a.eval x = cx at hr
  cases hr with
  | agg hone hl hr' =>
    rename_i cs cvs
    simp only [Option.bind_eq_some_iff] at he
    obtain ⟨m, hm, he⟩ := he
    obtain ⟨h0, h1, h2⟩ := inRange_some hm
    by_cases hle : m * sz + sz ≤ cs.length
    · simp only [if_pos hle, Option.bind_eq_some_iff, Option.some.injEq, Prod.mk.injEq] at he
      obtain ⟨u, hag, rfl, rfl⟩ := he
      obtain ⟨c, hrun, hrel⟩ := run_part (P := P) (w := w) hp ⟨hl, hr'⟩ hone hle hag
      exact Good.pure hW (c := c) (by simp [execOp, ho, hxe, hk, Instr.index, asIntOf, underlying, hte, run_sizeOf_is hsz, h0, h1, h2, hrun]) hrel
    · simp only [if_neg hle] at he; cases he
  | _ => simp at he
theorem get_data {s : ByteArray} {l : List UInt8} (h : s.data.toList = l) (k : Nat) : s[k]? = l[k]? := by
  subst h
  by_cases hk : k < s.size
  · have h2 : k < s.data.toList.length := by simpa using hk
    rw [List.getElem?_eq_getElem h2]
    rw [getElem?_pos s k hk]
    rfl
  · rw [getElem?_neg s k hk, List.getElem?_eq_none (by simpa using hk)]
theorem sound_ixS {t : TypeId} {x i : Operand} {x' i' : AO} (ho : o.op = .index t x i) (hx : chkO x x' = true) (hi : chkO i i' = true) (hte : strIs P t = true) (hF : FRel g N fr a.tmps) (hW : WRel B g st w)
    (he : evalA (.ixS x' i') fr st = some (v, st')) : Good P B g w o a v st' := by
  simp only [evalA, Option.bind_eq_some_iff] at he
  obtain ⟨u, hu, q, hq, j, hj, he⟩ := he
  have hd' : P.underlying t = some .string := by unfold strIs at hte; split at hte <;> simp_all
  obtain ⟨k, hk⟩ := intOf_rel hj (chkO_sound hi hF hq)
  have hr := chkO_sound hx hF hu
  generalize hxe : a.eval x = cx at hr
  cases hr with
  | str hs =>
    rename_i l s
    simp only [Option.bind_eq_some_iff, Option.some.injEq, Prod.mk.injEq] at he
    obtain ⟨m, hm, c, hc, rfl, rfl⟩ := he
    obtain ⟨h0, h1, h2⟩ := inRange_some hm
    have hget : s[m]? = some c := by rw [get_data hs]; exact hc
    exact Good.pure hW (c := .int .u8 c.toNat) (by simp [execOp, ho, hxe, hk, Instr.index, asIntOf, underlying, hd', h0, h2, hget]) (.int _ _)
  | _ => simp at he
def lenIs (P : Program) (t : TypeId) (k : Nat) : Bool := match P.underlying t with | some (.slice _) => k == 3 | some .string => k == 4 | some (.map ..) => k == 2 | _ => false
theorem lenIs_slice {t : TypeId} (h : lenIs P t 3 = true) : ∃ e, P.underlying t = some (.slice e) := by
  unfold lenIs at h
  cases hu : P.underlying t with
  | none => simp [hu] at h
  | some d => cases d <;> simp [hu] at h <;> exact ⟨_, rfl⟩
theorem lenIs_str {t : TypeId} (h : lenIs P t 4 = true) : P.underlying t = some .string := by
  unfold lenIs at h
  cases hu : P.underlying t with
  | none => simp [hu] at h
  | some d => cases d <;> simp [hu] at h <;> rfl
theorem lenIs_map {t : TypeId} (h : lenIs P t 2 = true) : ∃ k e, P.underlying t = some (.map k e) := by
  unfold lenIs at h
  cases hu : P.underlying t with
  | none => simp [hu] at h
  | some d => cases d <;> simp [hu] at h <;> exact ⟨_, _, rfl⟩
theorem sound_len {t k : Nat} {x : Operand} {x' : AO} {ts : Array TypeId} (ho : o.op = .call { callee := .builtin .len, args := #[x], argTypes := ts }) (hts : ts[0]? = some t) (hx : chkO x x' = true)
    (hk : lenIs P t k = true)
    (hF : FRel g N fr a.tmps) (hW : WRel B g st w) (he : evalA (.len k x') fr st = some (v, st')) : Good P B g w o a v st' := by
  simp only [evalA, Option.bind_eq_some_iff] at he
  obtain ⟨u, hu, he⟩ := he
  have hr := chkO_sound hx hF hu
  by_cases hcls : cls u = k
  case neg => rw [if_pos hcls] at he; cases he
  rw [if_neg (fun h => h hcls)] at he
  subst hcls
  generalize hxe : a.eval x = cx at hr
  have go : ∀ {c : Value} , (Builtin.len_ ts o.type #[cx]).run P w = .ok c w → VRel g v c → st = st' → Good P B g w o a v st' := by
    intro c h1 h2 h3
    subst h3
    exact Good.pure hW (c := c) (by simp [execOp, ho, hxe, resolve, invoke, builtin, h1]) h2
  cases hr with
  | lst hn hs hone hc himm hl hr' =>
    obtain ⟨e, hte⟩ := lenIs_slice hk
    simp at he; obtain ⟨rfl, rfl⟩ := he
    subst hn
    exact go (by simp [Builtin.len_, hts, underlying, hte]; rfl) (.int _ _) rfl
  | ref hg hlc =>
    obtain ⟨e, hte⟩ := lenIs_slice hk
    simp at he; obtain ⟨rfl, rfl⟩ := he
    exact go (by simp [Builtin.len_, hts, underlying, hte]; rfl) (.int _ _) rfl
  | str hs =>
    rename_i l s
    have hd := lenIs_str hk
    simp at he; obtain ⟨rfl, rfl⟩ := he
    have : l.length = s.size := by rw [← hs, Array.length_toList]; rfl
    refine go (c := .int .i64 s.size) (by simp [Builtin.len_, hts, underlying, hd]; rfl) ?_ rfl
    rw [this]; exact .int _ _
  | nilm =>
    obtain ⟨k, e, hte⟩ := lenIs_map hk
    simp at he; obtain ⟨rfl, rfl⟩ := he
    exact go (by simp [Builtin.len_, hts, underlying, hte]; rfl) (.int _ _) rfl
  | map hg =>
    obtain ⟨k, e, hte⟩ := lenIs_map hk
    simp only [Option.bind_eq_some_iff, Option.some.injEq, Prod.mk.injEq] at he
    obtain ⟨m, hm, rfl, rfl⟩ := he
    obtain ⟨b', es, cl, h1, h2, ⟨h3, h4⟩, _⟩ := hW.maps _ _ hm
    obtain rfl := Option.some.inj (h1.symm.trans hg)
    have hlen : m.length = es.size := by have := h3.1; simpa using this
    refine go (c := .int .i64 es.size) (by simp [Builtin.len_, hts, underlying, hte, getObj, Sem.run, h2]; rfl) ?_ rfl
    rw [hlen]; exact .int _ _
  | _ => simp at he
theorem sound_lenA {t n e : Nat} {x : Operand} {ts : Array TypeId} (ho : o.op = .call { callee := .builtin .len, args := #[x], argTypes := ts }) (hts : ts[0]? = some t)
    (hte : P.underlying t = some (.array n e) ∨ ∃ u, P.underlying t = some (.pointer u) ∧ P.underlying u = some (.array n e)) (hW : WRel B g st w) (he : evalA (.lenA n) fr st = some (v, st')) : Good P B g w o a v st' := by
  simp only [evalA, Option.some.injEq, Prod.mk.injEq] at he
  obtain ⟨rfl, rfl⟩ := he
  refine Good.pure hW (c := .int .i64 n) ?_ (.int _ _)
  rcases hte with hte | ⟨u, hte, hu⟩
  · simp [execOp, ho, resolve, invoke, builtin, Builtin.len_, hts, underlying, hte]; rfl
  · simp [execOp, ho, resolve, invoke, builtin, Builtin.len_, hts, underlying, hte, hu]; rfl
theorem sound_capv {t e : Nat} {x : Operand} {x' : AO} {ts : Array TypeId} (ho : o.op = .call { callee := .builtin .cap, args := #[x], argTypes := ts }) (hts : ts[0]? = some t) (hx : chkO x x' = true)
    (hte : P.underlying t = some (.slice e)) (hF : FRel g N fr a.tmps) (hW : WRel B g st w) (he : evalA (.capv x') fr st = some (v, st')) : Good P B g w o a v st' := by
  simp only [evalA, Option.bind_eq_some_iff] at he
  obtain ⟨u, hu, he⟩ := he
  have hr := chkO_sound hx hF hu
  generalize hxe : a.eval x = cx at hr
  cases hr with
  | ref hg hlc =>
    simp at he; obtain ⟨rfl, rfl⟩ := he
    exact Good.pure hW (by simp [execOp, ho, hxe, resolve, invoke, builtin, Builtin.cap_, hts, underlying, hte]; rfl) (.int _ _)
  | lst hn hs ho' hc hi hl hr' =>
    rename_i sz l c base n cap cvs
    cases c with
    | nil =>
      simp at he; obtain ⟨rfl, rfl⟩ := he
      have hcc : cap = 0 := hc.2.2
      subst hcc
      exact Good.pure hW (by simp [execOp, ho, hxe, resolve, invoke, builtin, Builtin.cap_, hts, underlying, hte]; rfl) (.int _ _)
    | exact =>
      simp at he; obtain ⟨rfl, rfl⟩ := he
      have hcc : cap = l.length := hc.2.trans hn
      subst hcc
      exact Good.pure hW (by simp [execOp, ho, hxe, resolve, invoke, builtin, Builtin.cap_, hts, underlying, hte]; rfl) (.int _ _)
    | full =>
      simp at he; obtain ⟨rfl, rfl⟩ := he
      have hcc : cap = l.length := hc.2.trans hn
      subst hcc
      exact Good.pure hW (by simp [execOp, ho, hxe, resolve, invoke, builtin, Builtin.cap_, hts, underlying, hte]; rfl) (.int _ _)
    | _ => simp at he
  | _ => simp at he
theorem sound_mm {isMax : Bool} {xs : Array Operand} {xs' : List AO} {ts : Array TypeId} (ho : o.op = .call { callee := .builtin (if isMax then .max else .min), args := xs, argTypes := ts }) (hx : chkOs xs.toList xs' = true)
    (hF : FRel g N fr a.tmps) (hW : WRel B g st w) (he : evalA (.mm isMax xs') fr st = some (v, st')) : Good P B g w o a v st' := by
  simp only [evalA, Option.bind_eq_some_iff] at he
  obtain ⟨vs, hvs, he⟩ := he
  have hl := chkOs_sound hx hF hvs
  have hargs : (xs.map a.eval).toList = xs.toList.map a.eval := by simp
  generalize xs.toList.map a.eval = cs at hl hargs
  have two : ∀ {k1 k2 : IntKind} {p q : Int}, (if isMax then Builtin.max2 else Builtin.min2) (.int k1 p) (.int k2 q) = pure (.int k1 (if isMax then (if q > p then q else p) else (if q < p then q else p))) := by
    intro k1 k2 p q; cases isMax <;> rfl
  have go : ∀ {c : Value}, ((if isMax then Builtin.max_ else Builtin.min_) ts o.type (xs.map a.eval)).run P w = .ok c w → VRel g v c → st = st' → Good P B g w o a v st' := by
    intro c h1 h2 h3
    subst h3
    refine Good.pure hW (c := c) ?_ h2
    cases isMax <;> simp at h1 <;> simp [execOp, ho, resolve, invoke, builtin, h1]
  have def_ : (if isMax then Builtin.max_ else Builtin.min_) ts o.type (xs.map a.eval) = (match cs with | [] => stuck (if isMax then "max: at least one argument expected" else "min: at least one argument expected") | x :: rest => rest.foldlM (if isMax then Builtin.max2 else Builtin.min2) x) := by
    cases isMax <;> simp only [Bool.false_eq_true, if_false, if_true, Builtin.max_, Builtin.min_, hargs] <;> cases cs <;> rfl
  match vs, he with
  | [.int k p, .int k2 q], he =>
    simp only [Option.some.injEq, Prod.mk.injEq] at he
    obtain ⟨rfl, rfl⟩ := he
    obtain ⟨c1, m1, rfl, hc1, hl⟩ := hl.cons_left
    obtain ⟨c2, m2, rfl, hc2, hl⟩ := hl.cons_left
    obtain rfl := hl.nil_left
    cases hc1; cases hc2
    refine go (c := .int k (if isMax then (if q > p then q else p) else (if q < p then q else p))) ?_ (.int _ _) rfl
    rw [def_]
    simp only [List.foldlM_cons, List.foldlM_nil, two]
    rfl
  | [.int k p, .int k2 q, .int k3 r], he =>
    simp only [Option.some.injEq, Prod.mk.injEq] at he
    obtain ⟨rfl, rfl⟩ := he
    obtain ⟨c1, m1, rfl, hc1, hl⟩ := hl.cons_left
    obtain ⟨c2, m2, rfl, hc2, hl⟩ := hl.cons_left
    obtain ⟨c3, m3, rfl, hc3, hl⟩ := hl.cons_left
    obtain rfl := hl.nil_left
    cases hc1; cases hc2; cases hc3
    refine go ?_ (.int _ _) rfl
    rw [def_]
    simp only [List.foldlM_cons, List.foldlM_nil, two, pure_bind]
    rfl
def chkB : Option Operand → Option AO → Bool
  | none, none => true
  | some y, some y' => chkO y y'
  | _, _ => false
theorem bnd_run {x : Option Operand} {x' : Option AO} {dflt lim k : Nat} (hx : chkB x x' = true) (hF : FRel g N fr a.tmps)
    (h : bnd fr x' dflt lim = some k) : (x = none ∧ x' = none ∧ k = dflt) ∨ (∃ y y', x = some y ∧ x' = some y' ∧ k ≤ lim ∧ ∀ w lim' code, lim ≤ lim' → (Instr.sliceBound (a.eval y) lim' code).run P w = .ok k w) := by
  match x, x', hx with
  | none, none, _ =>
    simp [bnd] at h; exact .inl ⟨rfl, rfl, h.symm⟩
  | some y, some y', hx =>
    simp only [bnd, Option.bind_eq_some_iff] at h
    obtain ⟨u, hu, i, hi, hb⟩ := h
    obtain ⟨h0, h1, h2⟩ := inBound_some hb
    obtain ⟨kk, hk⟩ := intOf_rel hi (chkO_sound (show chkO y y' = true from hx) hF hu)
    refine .inr ⟨y, y', rfl, rfl, by omega, fun w lim' code hl => ?_⟩
    have h1' : i ≤ (lim' : Int) := by omega
    simp [Instr.sliceBound, hk, asIntOf, h0, h1', h2]
  | none, some _, hx => simp [chkB] at hx
  | some _, none, hx => simp [chkB] at hx
theorem sliceBounds_run {isSlice : Bool} {len cap capA m h b : Nat} {lo hi mx : Option Operand} {lo' hi' mx' : Option AO} (hlo : chkB lo lo' = true) (hhi : chkB hi hi' = true) (hmx : chkB mx mx' = true) (hF : FRel g N fr a.tmps)
    (hm : bnd fr mx' capA capA = some m) (hh : bnd fr hi' len m = some h) (hb : bnd fr lo' 0 h = some b) (hlen : len ≤ capA) (hcap : capA ≤ cap) (hneed : mx = none ∨ hi ≠ none) :
    ∃ m', (mx = none → m' = cap ∧ m = capA) ∧ (mx ≠ none → m' = m) ∧ b ≤ h ∧ h ≤ m ∧ m ≤ capA ∧
      ∀ w, (Instr.sliceBounds isSlice len cap (lo.map a.eval) (hi.map a.eval) (mx.map a.eval)).run P w = .ok (b, h, m') w := by
  have h1 := bnd_run (P := P) hmx hF hm
  have h2 := bnd_run (P := P) hhi hF hh
  have h3 := bnd_run (P := P) hlo hF hb
  rcases h1 with ⟨rfl, rfl, rfl⟩ | ⟨y1, y1', rfl, rfl, hle1, hr1⟩
  · refine ⟨cap, fun _ => ⟨rfl, rfl⟩, fun h => absurd rfl h, ?_⟩
    rcases h2 with ⟨rfl, rfl, rfl⟩ | ⟨y2, y2', rfl, rfl, hle2, hr2⟩
    · rcases h3 with ⟨rfl, rfl, rfl⟩ | ⟨y3, y3', rfl, rfl, hle3, hr3⟩
      · exact ⟨Nat.zero_le _, hlen, Nat.le_refl _, fun w => by simp [Instr.sliceBounds]⟩
      · exact ⟨hle3, hlen, Nat.le_refl _, fun w => by simp [Instr.sliceBounds, hr3 w h _ (Nat.le_refl _)]⟩
    · rcases h3 with ⟨rfl, rfl, rfl⟩ | ⟨y3, y3', rfl, rfl, hle3, hr3⟩
      · exact ⟨Nat.zero_le _, hle2, Nat.le_refl _, fun w => by simp [Instr.sliceBounds, hr2 w cap _ hcap]⟩
      · exact ⟨hle3, hle2, Nat.le_refl _, fun w => by simp [Instr.sliceBounds, hr2 w cap _ hcap, hr3 w h _ (Nat.le_refl _)]⟩
  · refine ⟨m, (fun h => by cases h), fun _ => rfl, ?_⟩
    rcases h2 with ⟨rfl, rfl, rfl⟩ | ⟨y2, y2', rfl, rfl, hle2, hr2⟩
    · rcases hneed with hneed | hneed
      · cases hneed
      · exact absurd rfl hneed
    · rcases h3 with ⟨rfl, rfl, rfl⟩ | ⟨y3, y3', rfl, rfl, hle3, hr3⟩
      · exact ⟨Nat.zero_le _, hle2, hle1, fun w => by simp [Instr.sliceBounds, hr1 w cap _ hcap, hr2 w m _ (Nat.le_refl _)]⟩
      · exact ⟨hle3, hle2, hle1, fun w => by simp [Instr.sliceBounds, hr1 w cap _ hcap, hr2 w m _ (Nat.le_refl _), hr3 w h _ (Nat.le_refl _)]⟩
end
end Go.Sim
