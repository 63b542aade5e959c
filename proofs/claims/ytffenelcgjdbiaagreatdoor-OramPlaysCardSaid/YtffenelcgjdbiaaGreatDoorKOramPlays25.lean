/- Merged by a program of mine (pack.py) out of my own texts; what is not used is left out. -/
import Derived.Test.YtffenelcgjdbiaaGreatDoorKOramPlays24
set_option linter.unusedVariables false
set_option linter.unusedSimpArgs false
namespace Go.Sim
open Go
theorem MR.cons_left {g : G} {p : V × V} {m : List (V × V)} {es : List MapEntry} (h : MR g (p :: m) es) : ∃ e es', es = e :: es' ∧ VRel g p.1 e.key ∧ VRel g p.2 e.val ∧ MR g m es' := by
  obtain ⟨h1, h2⟩ := h
  cases es with
  | nil => have := h1.1; simp at this
  | cons e es' =>
    refine ⟨e, es', rfl, h1.head, h2.head, h1.tail, h2.tail⟩
theorem MR.cons {g : G} {p : V × V} {m : List (V × V)} {e : MapEntry} {es : List MapEntry} (h1 : VRel g p.1 e.key) (h2 : VRel g p.2 e.val) (h : MR g m es) : MR g (p :: m) (e :: es) :=
  ⟨LR.cons h1 h.1, LR.cons h2 h.2⟩
theorem MR.nil_left {g : G} {es : List MapEntry} (h : MR g [] es) : es = [] := by
  have := h.1.nil_left; simpa using this
theorem findNow_none {g : G} {kd kk : IntKind} {k : Int} : ∀ {m : List (V × V)} {es : List MapEntry}, MR g m es → lookM m kk k = some none → ∀ i, Instr.findNow (.int kd) (.int kk k) es i = some none
  | [], es, h, _, i => by rw [h.nil_left]; rfl
  | p :: m, es, h, hl, i => by
    obtain ⟨e, es', rfl, h1, h2, h3⟩ := h.cons_left
    obtain ⟨p1, p2⟩ := p
    cases p1 <;> simp [lookM] at hl
    rename_i kj j
    obtain ⟨rfl, hkj⟩ := hl
    generalize hek : e.key = ek at h1
    cases h1
    by_cases hk : k = j
    · rw [if_pos hk] at hkj; simp at hkj
    · rw [if_neg hk] at hkj
      have ih := findNow_none (kd := kd) h3 hkj (i + 1)
      have hs : Instr.sameNow (.int kd) (.int kk k) (.int kk j) = some false := by simp [Instr.sameNow, hk]
      simp only [Instr.findNow, hek, hs]
      exact ih
theorem keys_none {g : G} {kk : IntKind} {k : Int} : ∀ {m : List (V × V)} {es : List MapEntry}, MR g m es → lookM m kk k = some none → ∀ x ∈ es, x.key ≠ .int kk k
  | [], es, h, _, x, hx => by rw [h.nil_left] at hx; cases hx
  | p :: m, es, h, hl, x, hx => by
    obtain ⟨e, es', rfl, h1, h2, h3⟩ := h.cons_left
    obtain ⟨p1, p2⟩ := p
    cases p1 <;> simp [lookM] at hl
    rename_i kj j
    obtain ⟨rfl, hkj⟩ := hl
    generalize hek : e.key = ek at h1
    cases h1
    by_cases hk : k = j
    · rw [if_pos hk] at hkj; simp at hkj
    · rw [if_neg hk] at hkj
      rcases List.mem_cons.1 hx with hx | hx
      · rw [hx, hek]; intro h; injection h with _ h; exact hk h.symm
      · exact keys_none h3 hkj x hx
theorem findNow_some {g : G} {kd kk : IntKind} {k : Int} : ∀ {m : List (V × V)} {es : List MapEntry} {u : V}, MR g m es → lookM m kk k = some (some u) → ∀ i,
    ∃ j e, es[j]? = some e ∧ e.key = .int kk k ∧ Instr.findNow (.int kd) (.int kk k) es i = some (some (i + j, e.val)) ∧ VRel g u e.val ∧
      (∀ u' c', VRel g u' c' → MR g (updM m kk k u') (es.modify j fun e => { e with key := .int kk k, val := c' })) ∧ MR g (delM m k) (es.eraseIdx j)
  | [], es, u, h, hl, i => by simp [lookM] at hl
  | p :: m, es, u, h, hl, i => by
    obtain ⟨e, es', rfl, h1, h2, h3⟩ := h.cons_left
    obtain ⟨p1, p2⟩ := p
    cases p1 <;> simp [lookM] at hl
    rename_i kj j
    obtain ⟨rfl, hkj⟩ := hl
    generalize hek : e.key = ek at h1
    cases h1
    by_cases hk : k = j
    · subst hk
      rw [if_pos rfl] at hkj
      simp at hkj; subst hkj
      have hs : Instr.sameNow (.int kd) (.int kk k) (.int kk k) = some true := by simp [Instr.sameNow]
      refine ⟨0, e, rfl, hek, ?_, h2, ?_, ?_⟩
      · simp only [Instr.findNow, hek, hs]; rfl
      · intro u' c' hr
        simp only [updM, if_true, List.modify_zero_cons]
        exact MR.cons (.int _ _) hr h3
      · simpa [delM] using h3
    · rw [if_neg hk] at hkj
      obtain ⟨j', e', g1, g2, g3, g4, g5, g6⟩ := findNow_some (kd := kd) h3 hkj (i + 1)
      have hs : Instr.sameNow (.int kd) (.int kk k) (.int kk j) = some false := by simp [Instr.sameNow, hk]
      refine ⟨j' + 1, e', by simpa using g1, g2, ?_, g4, ?_, ?_⟩
      · simp only [Instr.findNow, hek, hs]
        rw [g3]; congr 3; omega
      · intro u' c' hr
        simp only [updM, if_neg hk, List.modify_succ_cons]
        exact MR.cons (by rw [hek]; exact .int _ _) h2 (g5 u' c' hr)
      · simp only [delM, if_neg hk, List.eraseIdx_cons_succ]
        exact MR.cons (by rw [hek]; exact .int _ _) h2 g6
theorem upd_none {g : G} {kk : IntKind} {k : Int} {u : V} {c : Value} (hr : VRel g u c) (born : Nat) : ∀ {m : List (V × V)} {es : List MapEntry}, MR g m es → lookM m kk k = some none → MR g (updM m kk k u) (es ++ [{ key := .int kk k, val := c, born := born }])
  | [], es, h, _ => by rw [h.nil_left]; exact MR.cons (.int _ _) hr ⟨LR.nil, LR.nil⟩
  | p :: m, es, h, hl => by
    obtain ⟨e, es', rfl, h1, h2, h3⟩ := h.cons_left
    obtain ⟨p1, p2⟩ := p
    cases p1 <;> simp [lookM] at hl
    rename_i kj j
    obtain ⟨rfl, hkj⟩ := hl
    by_cases hk : k = j
    · rw [if_pos hk] at hkj; simp at hkj
    · rw [if_neg hk] at hkj
      simp only [updM, if_neg hk]
      exact MR.cons h1 h2 (upd_none hr born h3 hkj)
theorem del_none {kk : IntKind} {k : Int} : ∀ {m : List (V × V)}, lookM m kk k = some none → delM m k = m
  | [], _ => rfl
  | p :: m, hl => by
    obtain ⟨p1, p2⟩ := p
    cases p1 <;> simp [lookM] at hl
    rename_i kj j
    obtain ⟨rfl, hkj⟩ := hl
    by_cases hk : k = j
    · rw [if_pos hk] at hkj; simp at hkj
    · rw [if_neg hk] at hkj
      simp only [delM, if_neg hk]
      rw [del_none hkj]
section
variable {P : Program} {B : Env} {g : G} {st st' : St} {w : World} {o : Oper} {a : Act} {N : Nat} {fr : Fr} {v : V}
def mapInt (P : Program) (t : TypeId) : Bool := match P.underlying t with | some (.map k _) => (match P.underlying k with | some (.int _) => true | _ => false) | _ => false
theorem mapInt_some {t : TypeId} (h : mapInt P t = true) : ∃ k e kd, P.underlying t = some (.map k e) ∧ P.underlying k = some (.int kd) := by
  unfold mapInt at h
  cases hu : P.underlying t with
  | none => simp [hu] at h
  | some d =>
    cases d with
    | map k e =>
      simp only [hu] at h
      cases hk : P.underlying k with
      | none => simp [hk] at h
      | some d2 =>
        cases d2 with
        | int kd => exact ⟨k, e, kd, rfl, hk⟩
        | _ => simp [hk] at h
    | _ => simp [hu] at h
theorem run_checkKey_int {k : TypeId} {kd kk : IntKind} {i : Int} {b : Bool} (hk : P.underlying k = some (.int kd)) (n : Nat) (w : World) : (Instr.checkKey b (n + 1) k (.int kk i)).run P w = .ok () w := by
  simp [Instr.checkKey, run_underlying hk]
theorem run_findKey_int {k : TypeId} {kd kk : IntKind} {i : Int} {es : List MapEntry} {r : Option (Nat × Value)} (hk : P.underlying k = some (.int kd)) (h : Instr.findNow (.int kd) (.int kk i) es 0 = some r) (w : World) : (Instr.findKey k (.int kk i) es).run P w = .ok r w := by
  simp [Instr.findKey, run_underlying hk, h]
theorem sound_look {t : TypeId} {x k : Operand} {x' k' : AO} {z : V} {ok : Bool} (ho : o.op = .lookup t x k ok) (ht : mapInt P t = true) (hz : ∀ kt e, P.underlying t = some (.map kt e) → zeroIs P e z = true) (hx : chkO x x' = true) (hk : chkO k k' = true) (hF : FRel g N fr a.tmps) (hW : WRel B g st w)
    (he : evalA (.look z x' k' ok) fr st = some (v, st')) : Good P B g w o a v st' := by
  simp only [evalA, Option.bind_eq_some_iff] at he
  obtain ⟨p, hp, q, hq, he⟩ := he
  obtain ⟨kt, e, kd, hu, huk⟩ := mapInt_some ht
  obtain ⟨zc, hz1, hz2⟩ := run_zero_is (hz kt e hu) w
  have hzr := cv_sound hz2 g
  have hr := chkO_sound hx hF hp
  have hr2 := chkO_sound hk hF hq
  generalize hxe : a.eval x = cx at hr
  generalize hke : a.eval k = ck at hr2
  have fin : ∀ {cv : Value} {uv : V} {b : Bool}, (Instr.lookup t cx ck ok).run P w = .ok (if ok then .tuple #[cv, .bool b] else cv) w → VRel g uv cv → v = (if ok then .tup [uv, .bool b] else uv) → st' = st → Good P B g w o a v st' := by
    intro cv uv b h1 h2 h3 h4
    subst h3 h4
    refine Good.pure hW (c := if ok then .tuple #[cv, .bool b] else cv) (by simp [execOp, ho, hxe, hke, h1]) ?_
    cases ok
    · exact h2
    · exact .tup (by simp) (LR.cons h2 (LR.one (.bool b))).2
  cases hr with
  | map hg =>
    rename_i id0 _
    cases hr2 with
    | int kk i =>
      simp only [Option.bind_eq_some_iff, Option.some.injEq, Prod.mk.injEq] at he
      obtain ⟨m, hm, r, hl, hv, rfl⟩ := he
      obtain ⟨b', es, cl, h1, h2, h3, hst⟩ := hW.maps _ _ hm
      obtain rfl := Option.some.inj (h1.symm.trans hg)
      have hget : (getObj b').run P w = .ok (.map es cl) w := by simp [getObj, Sem.run, h2]
      cases r with
      | none =>
        have hf := run_findKey_int (P := P) huk (findNow_none (kd := kd) h3 hl 0) w
        exact fin (cv := zc) (uv := z) (b := false) (by simp [Instr.lookup, run_underlying hu, hget, run_checkKey_int huk 9999, hf, hz1]) hzr (by simpa using hv.symm) rfl
      | some u =>
        obtain ⟨j, e', g1, g2, g3, g4, _⟩ := findNow_some (kd := kd) h3 hl 0
        have hf := run_findKey_int (P := P) huk g3 w
        exact fin (cv := e'.val) (uv := u) (b := true) (by simp [Instr.lookup, run_underlying hu, hget, run_checkKey_int huk 9999, hf]) g4 (by simpa using hv.symm) rfl
    | _ => simp at he
  | nilm =>
    cases hr2 with
    | int kk i =>
      simp only [Option.some.injEq, Prod.mk.injEq] at he
      obtain ⟨hv, rfl⟩ := he
      have hf := run_findKey_int (P := P) (es := []) huk (show Instr.findNow (.int kd) (.int kk i) [] 0 = some none from rfl) w
      exact fin (cv := zc) (uv := z) (b := false) (by simp [Instr.lookup, run_underlying hu, run_checkKey_int huk 9999, hf, hz1]) hzr hv.symm rfl
    | _ => simp at he
  | _ => cases hr2 <;> simp at he
theorem sound_mup {t : TypeId} {x k y : Operand} {x' k' y' : AO} (ho : o.op = .mapUpdate t x k y) (ht : mapInt P t = true) (hx : chkO x x' = true) (hk : chkO k k' = true) (hy : chkO y y' = true) (hF : FRel g N fr a.tmps) (hW : WRel B g st w)
    (he : evalA (.mup x' k' y') fr st = some (v, st')) : Good P B g w o a v st' := by
  simp only [evalA, Option.bind_eq_some_iff] at he
  obtain ⟨p, hp, q, hq, u, hyu, he⟩ := he
  obtain ⟨kt, e, kd, hu, huk⟩ := mapInt_some ht
  have hr := chkO_sound hx hF hp
  have hr2 := chkO_sound hk hF hq
  have hr3 := chkO_sound hy hF hyu
  generalize hxe : a.eval x = cx at hr
  generalize hke : a.eval k = ck at hr2
  generalize hye : a.eval y = cy at hr3
  cases hr with
  | map hg =>
    rename_i id0 _
    cases hr2 with
    | int kk i =>
      simp only [Option.bind_eq_some_iff, Option.some.injEq, Prod.mk.injEq] at he
      obtain ⟨m, hm, r, hl, rfl, rfl⟩ := he
      obtain ⟨b', es, cl, h1, h2, h3, hst⟩ := hW.maps _ _ hm
      obtain rfl := Option.some.inj (h1.symm.trans hg)
      have hget : (getObj b').run P w = .ok (.map es cl) w := by simp [getObj, Sem.run, h2]
      have hset : ∀ es' cl', (setObj b' (.map es' cl')).run P w = .ok () { w with heap := w.heap.setIfInBounds b' (.map es' cl') } := by
        intro es' cl'; simp [setObj, Sem.run, h2]
      have fin : ∀ {es' : Array MapEntry} {cl' : Nat}, (Instr.mapUpdate t (.map (some b')) (.int kk i) cy).run P w = .ok () { w with heap := w.heap.setIfInBounds b' (.map es' cl') } → MR g (updM m kk i u.wk) es'.toList → MapKept.Stamped es' cl' → Good P B g w o a (.tup []) (st.setM id0 (updM m kk i u.wk)) := by
        intro es' cl' hrun hMR hst'
        have := hW.setMap (cl' := cl') hm h1 h2 hMR hst'
        exact ⟨.skip, g, undef, _, by simp [execOp, ho, hxe, hke, hye, hrun], rfl, .tup (by simp) (fun i v c hi => by simp at hi), this.1, this.2⟩
      cases r with
      | none =>
        have hf := run_findKey_int (P := P) huk (findNow_none (kd := kd) h3 hl 0) w
        have hMR := upd_none hr3.wk cl h3 hl
        refine fin (es' := es.push { key := .int kk i, val := cy, born := cl }) (cl' := cl + 1) ?_ (by simpa using hMR) (MapKept.stamped_push hst (keys_none h3 hl))
        simp [Instr.mapUpdate, run_underlying hu, hget, run_checkKey_int huk 9999, hf, hset]
      | some u0 =>
        obtain ⟨j, e', g1, g2, g3, g4, g5, _⟩ := findNow_some (kd := kd) h3 hl 0
        have hf := run_findKey_int (P := P) huk g3 w
        have hMR := g5 u.wk cy hr3.wk
        have hej : es[j]? = some e' := by simpa using g1
        have hsb : Instr.sameBits 10000 (.int kk i) (.int kk i) = true := by simp [Instr.sameBits]
        refine fin (es' := es.modify j fun e => { e with key := .int kk i, val := cy }) (cl' := cl) ?_ (by rw [Array.toList_modify]; exact hMR) (MapKept.stamped_modify hst j _ (fun _ _ => rfl) fun e he1 he2 => by rw [hej] at he2; cases he2; exact g2.symm)
        simp [Instr.mapUpdate, run_underlying hu, hget, run_checkKey_int huk 9999, hf, hej, g2, Instr.keyThatStays, hsb, hset]
    | _ => simp at he
  | _ => cases hr2 <;> simp at he
theorem sound_del {t : TypeId} {ts : Array TypeId} {x k : Operand} {x' k' : AO} (ho : o.op = .call { callee := .builtin .delete, args := #[x, k], argTypes := ts }) (hts : ts[0]? = some t) (ht : mapInt P t = true) (hx : chkO x x' = true) (hk : chkO k k' = true) (hF : FRel g N fr a.tmps) (hW : WRel B g st w)
    (he : evalA (.del x' k') fr st = some (v, st')) : Good P B g w o a v st' := by
  simp only [evalA, Option.bind_eq_some_iff] at he
  obtain ⟨p, hp, q, hq, he⟩ := he
  obtain ⟨kt, e, kd, hu, huk⟩ := mapInt_some ht
  have hr := chkO_sound hx hF hp
  have hr2 := chkO_sound hk hF hq
  generalize hxe : a.eval x = cx at hr
  generalize hke : a.eval k = ck at hr2
  cases hr with
  | map hg =>
    rename_i id0 _
    cases hr2 with
    | int kk i =>
      simp only [Option.bind_eq_some_iff, Option.some.injEq, Prod.mk.injEq] at he
      obtain ⟨m, hm, r, hl, rfl, rfl⟩ := he
      obtain ⟨b', es, cl, h1, h2, h3, hst⟩ := hW.maps _ _ hm
      obtain rfl := Option.some.inj (h1.symm.trans hg)
      have hget : (getObj b').run P w = .ok (.map es cl) w := by simp [getObj, Sem.run, h2]
      have hset : ∀ es' cl', (setObj b' (.map es' cl')).run P w = .ok () { w with heap := w.heap.setIfInBounds b' (.map es' cl') } := by
        intro es' cl'; simp [setObj, Sem.run, h2]
      have fin : ∀ {es' : Array MapEntry} {cl' : Nat}, (Builtin.delete_ ts o.type #[.map (some b'), .int kk i]).run P w = .ok (.tuple #[]) { w with heap := w.heap.setIfInBounds b' (.map es' cl') } → MR g (delM m i) es'.toList → MapKept.Stamped es' cl' → Good P B g w o a (.tup []) (st.setM id0 (delM m i)) := by
        intro es' cl' hrun hMR hst'
        have := hW.setMap (cl' := cl') hm h1 h2 hMR hst'
        exact Good.step (c := .tuple #[]) (exec_call2 ho (fun cs => rfl) (by rw [hxe, hke]; exact hrun)) (.tup (by simp) (fun i v c hi => by simp at hi)) this.1 this.2
      cases r with
      | none =>
        have hf := run_findKey_int (P := P) huk (findNow_none (kd := kd) h3 hl 0) w
        refine fin (es' := es) (cl' := cl) ?_ (by rw [del_none hl]; exact h3) hst
        simp [Builtin.delete_, hts, run_underlying hu, hget, run_checkKey_int huk 9999, hf, hset]
      | some u0 =>
        obtain ⟨j, e', g1, g2, g3, g4, _, g6⟩ := findNow_some (kd := kd) h3 hl 0
        have hf := run_findKey_int (P := P) huk g3 w
        have hlt : j < es.size := by have := (List.getElem?_eq_some_iff.1 g1).1; simpa using this
        refine fin (es' := es.eraseIdxIfInBounds j) (cl' := cl) ?_ ?_ (MapKept.stamped_erase hst j)
        · simp [Builtin.delete_, hts, run_underlying hu, hget, run_checkKey_int huk 9999, hf, hset]
        · rw [Array.eraseIdxIfInBounds, dif_pos hlt, Array.toList_eraseIdx]; exact g6
    | _ => simp at he
  | _ => cases hr2 <;> simp at he
theorem freeze_heap (w : World) (b n : Nat) (hn : n ≠ 0) (off : Nat) {cur : Array Value} {e : TypeId} {fr : Nat × Nat} (hb : w.heap[b]? = some (.cells cur e fr)) (hoff : cur.size ≤ off) :
    ∃ fr', (Free fr cur.size → Free fr' cur.size) ∧ ∀ k, (w.freeze ⟨b, off, none⟩ n).heap[k]? = if k = b then some (.cells cur e fr') else w.heap[k]? := by
  obtain ⟨lo, hi⟩ := fr
  refine ⟨if lo == hi then (off, off + n) else (min lo off, max hi (off + n)), ?_, ?_⟩
  · intro hfr
    by_cases h : lo = hi
    · simp only [h, beq_self_eq_true, if_true]; exact .inr hoff
    · have : (lo == hi) = false := by simpa using h
      simp only [this, Bool.false_eq_true, if_false]
      rcases hfr with h2 | h2
      · exact absurd h2 h
      · exact .inr (by simp only at h2 ⊢; omega)
  · intro k
    simp only [World.freeze, if_neg hn, Array.getElem?_modify]
    by_cases hk : b = k
    · subst hk; simp [hb]
    · rw [if_neg hk, if_neg (fun h => hk h.symm)]
theorem WRel.freeze (hW : WRel B g st w) {b off : Nat} {cur : Array Value} {e : TypeId} {fr : Nat × Nat} (hb : w.heap[b]? = some (.cells cur e fr)) (hlo : g.lo ≤ b) (hoff : cur.size ≤ off) : WRel B g st (w.freeze ⟨b, off, none⟩ 1) ∧ Step g w g (w.freeze ⟨b, off, none⟩ 1) := by
  obtain ⟨fr', hfr', hheap⟩ := freeze_heap w b 1 (by omega) off hb hoff
  have hsz : (w.freeze ⟨b, off, none⟩ 1).heap.size = w.heap.size := by simp [World.freeze]
  have hcell : ∀ x o, (w.freeze ⟨b, off, none⟩ 1).cell? ⟨x, o, none⟩ = w.cell? ⟨x, o, none⟩ := by
    intro x o
    simp only [World.cell?, hheap]
    by_cases hx : x = b
    · subst hx; simp [hb]
    · rw [if_neg hx]
  refine ⟨⟨by rw [hsz]; exact hW.base, hW.fresh0, fun i x h => by rw [hsz]; exact hW.blkO i x h, fun i x h => by rw [hsz]; exact hW.blkT i x h, hW.inj, hW.objTok, hW.noImm, ?_, ?_, fun x o v h => by rw [hcell]; exact hW.imm x o v h, ?_, hW.tokInj, hW.lo, hW.glob⟩,
    ⟨.refl g, by rw [hsz]; exact Nat.le_refl _, rfl, rfl, rfl, ?_, fun _ _ h => .inl h, fun t i h => .inl ⟨t, i, h, rfl⟩, ?_, fun _ _ _ h => .inl h⟩⟩
  · intro id cs hcs
    obtain ⟨b', cvs, e', f', h1, h2, h3, h4⟩ := hW.cells id cs hcs
    by_cases hx : b' = b
    · subst hx
      rw [hb] at h2
      simp only [Option.some.injEq, Obj.cells.injEq] at h2
      obtain ⟨rfl, rfl, rfl⟩ := h2
      exact ⟨b', cur, e, fr', h1, by rw [hheap, if_pos rfl], hfr' h3, h4⟩
    · exact ⟨b', cvs, e', f', h1, by rw [hheap, if_neg hx]; exact h2, h3, h4⟩
  · intro id m hm
    obtain ⟨b', es, cl, h1, h2, h3⟩ := hW.maps id m hm
    have hx : b' ≠ b := fun h => by subst h; rw [hb] at h2; cases h2
    exact ⟨b', es, cl, h1, by rw [hheap, if_neg hx]; exact h2, h3⟩
  · intro t ht
    obtain ⟨i, cvs, e', f', h1, h2, h3, h4, h5⟩ := hW.tok t ht
    by_cases hx : i.blk = b
    · rw [hx, hb] at h2
      simp only [Option.some.injEq, Obj.cells.injEq] at h2
      obtain ⟨rfl, rfl, rfl⟩ := h2
      exact ⟨i, cur, e, fr', h1, by rw [hheap, if_pos hx], hfr' h3, h4, h5⟩
    · exact ⟨i, cvs, e', f', h1, by rw [hheap, if_neg hx]; exact h2, h3, h4, h5⟩
  · intro x hx
    rw [hheap, if_neg (by omega)]
  · intro x hx _ _
    by_cases hxb : x = b
    · subst hxb
      exact .inr ⟨cur, e, fr, fr', hb, by rw [hheap, if_pos rfl], hfr'⟩
    · left; rw [hheap, if_neg hxb]
theorem sound_mark {s e : TypeId} {x : Operand} {x' : AO} (ho : o.op = .convert s s x) (hx : chkO x x' = true) (ht : P.underlying s = some (.slice e)) (hu : P.underlying e = some (.int .u8)) (hF : FRel g N fr a.tmps) (hW : WRel B g st w)
    (he : evalA (.mark x') fr st = some (v, st')) : Good P B g w o a v st' := by
  simp only [evalA, Option.bind_eq_some_iff] at he
  obtain ⟨u, hxu, he⟩ := he
  have hr := chkO_sound hx hF hxu
  generalize hxe : a.eval x = cx at hr
  cases hr with
  | lst hn hs hone hc himm hl hr' =>
    rename_i sz l c base m cap cvs
    cases c <;> try (simp at he; done)
    simp only [Option.some.injEq, Prod.mk.injEq] at he
    obtain ⟨rfl, rfl⟩ := he
    obtain ⟨⟨b, o0, hb, hlo⟩, hcap⟩ := hc
    subst hb
    have hrel : VRel g (.lst sz l .exact) (.slice (some ⟨b, o0, none⟩) m cap) := .lst hn hs hone ⟨⟨b, o0, rfl, hlo⟩, hcap⟩ himm hl hr'
    have hconv : (convert s s (.slice (some ⟨b, o0, none⟩) m cap)).run P w = ((markStringish ⟨b, o0, none⟩).run P w).andThen fun _ w' => .ok (.slice (some ⟨b, o0, none⟩) m cap) w' := by
      simp [convert, run_underlying ht, run_underlying hu]
    by_cases hcell : ∃ cur e fr, w.heap[b]? = some (.cells cur e fr)
    · obtain ⟨cur, e', fr', hcur⟩ := hcell
      have hf := hW.freeze hcur hlo (Nat.le_refl _)
      refine Good.step (c := .slice (some ⟨b, o0, none⟩) m cap) ?_ hrel hf.1 hf.2
      have hsh : w.shape? b = some (e', cur.size) := by simp only [World.shape?, hcur]
      have : (markStringish ⟨b, o0, none⟩).run P w = .ok () (w.freeze ⟨b, cur.size, none⟩ 1) := by
        unfold markStringish
        rw [Sem.run_bind, run_shape, Result.andThen_ok, hsh]
        rfl
      simp only [execOp, ho, hxe, Sem.run_bind, hconv, this, Result.andThen_ok, Sem.run_pure]
    · have hsh : w.shape? b = none := by
        unfold World.shape?
        cases hh : w.heap[b]? with
        | none => rfl
        | some ob =>
          cases ob with
          | cells c e f => exact absurd ⟨c, e, f, hh⟩ hcell
          | _ => rfl
      have : (markStringish ⟨b, o0, none⟩).run P w = .ok () w := by
        unfold markStringish
        rw [Sem.run_bind, run_shape, Result.andThen_ok, hsh]
        rfl
      exact Good.pure hW (c := .slice (some ⟨b, o0, none⟩) m cap) (by simp only [execOp, ho, hxe, Sem.run_bind, hconv, this, Result.andThen_ok, Sem.run_pure]) hrel
  | _ => simp at he
theorem sound_arr {t n e sz : Nat} {x : Operand} {x' : AO} (ho : o.op = .sliceToArrayPointer t x) (hx : chkO x x' = true) (ht : P.underlying t = some (.array n e)) (hF : FRel g N fr a.tmps) (hW : WRel B g st w) (hsz0 : sz ≠ 0)
    (he : evalA (.arr n sz x') fr st = some (v, st')) : Good P B g w o a v st' := by
  simp only [evalA, Option.bind_eq_some_iff] at he
  obtain ⟨u, hu, he⟩ := he
  have hr := chkO_sound hx hF hu
  generalize hxe : a.eval x = cx at hr
  cases hr with
  | lst hn hs hone hc himm hl hr' =>
    rename_i s l c base m cap cvs
    subst hn
    by_cases hcond : s = sz ∧ 0 < n ∧ n ≤ l.length
    · simp only [if_pos hcond, Option.some.injEq, Prod.mk.injEq] at he
      obtain ⟨rfl, rfl⟩ := he
      obtain ⟨rfl, hn0, hnl⟩ := hcond
      have hlr : LR (VRel g) (flat l) cvs := ⟨hl, hr'⟩
      have hcl : cvs.length = l.length * s := length_cells_of hs hl
      have hpos : 0 < cvs.length := by
        rw [hcl]; exact Nat.mul_pos (by omega) (Nat.pos_of_ne_zero hsz0)
      obtain ⟨b, o0, hb, _⟩ := himm 0 _ (List.getElem?_eq_getElem hpos)
      subst hb
      have hft := flat_take hs n
      have hsub := hlr.take (n * s)
      refine Good.pure hW (c := .pointer (some ⟨b, o0, none⟩)) (by simp [execOp, ho, hxe, Instr.arrayAt, run_underlying ht, show ¬ l.length < n by omega]) (.ep (cvs := cvs.take (n * s)) ?_ ?_ ?_ ?_)
      · intro z hz; rw [hft] at hz; exact hone z (List.mem_of_mem_take hz)
      · intro j cc hj
        rw [List.getElem?_take] at hj
        split at hj
        · exact himm j cc hj
        · cases hj
      · rw [hft]; exact hsub.1
      · rw [hft]; exact hsub.2
    · simp only [if_neg hcond] at he; cases he
  | ref hg hlc =>
    rename_i s id off len cap b
    by_cases hcond : s = sz ∧ n ≤ len
    · simp only [if_pos hcond, Option.some.injEq, Prod.mk.injEq] at he
      obtain ⟨rfl, rfl⟩ := he
      exact Good.pure hW (c := .pointer (some ⟨b, off, none⟩)) (by simp [execOp, ho, hxe, Instr.arrayAt, run_underlying ht, show ¬ len < n by omega]) (.ptr hg)
    · simp only [if_neg hcond] at he; cases he
  | _ => simp at he
theorem strOf_flat : ∀ {l : List V} {s : List UInt8}, strOf l = some s → flat l = l ∧ ∃ ns : List Int, l = ns.map (V.int .u8) ∧ s = ns.map fun n => UInt8.ofNat n.toNat
  | [], s, h => by simp [strOf] at h; subst h; exact ⟨rfl, [], rfl, rfl⟩
  | v :: l, s, h => by
    cases v <;> try (simp [strOf] at h; done)
    rename_i k n
    cases k <;> try (simp [strOf] at h; done)
    simp only [strOf, Option.bind_eq_some_iff, Option.some.injEq] at h
    obtain ⟨s', hs', rfl⟩ := h
    obtain ⟨h1, ns, h2, h3⟩ := strOf_flat hs'
    refine ⟨?_, n :: ns, by rw [h2]; rfl, by rw [h3]; rfl⟩
    show [V.int .u8 n] ++ flat l = _
    rw [h1]; rfl
end
end Go.Sim
