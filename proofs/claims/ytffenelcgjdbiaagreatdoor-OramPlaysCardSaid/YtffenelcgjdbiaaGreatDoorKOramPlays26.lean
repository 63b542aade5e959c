/- Merged by a program of mine (pack.py) out of my own texts; what is not used is left out. -/
import Derived.Test.YtffenelcgjdbiaaGreatDoorKOramPlays25
set_option linter.unusedVariables false
set_option linter.unusedSimpArgs false
namespace Go.Sim
open Go
section
variable {P : Program} {bn : Nat} {g : G} {st st' : St} {w : World} {o : Oper} {a : Act} {N : Nat} {fr : Fr} {v : V}
theorem LR.ints {k : IntKind} : ∀ {ns : List Int} {m : List Value}, LR (VRel g) (ns.map (V.int k)) m → m = ns.map (Value.int k)
  | [], m, h => by rw [h.nil_left]; rfl
  | n :: ns, m, h => by
    obtain ⟨c, m', rfl, h1, h2⟩ := h.cons_left
    cases h1
    rw [LR.ints h2]; rfl
theorem push_all (ns : List Int) : ∀ s : ByteArray, (ns.foldl (fun r n => r.push (UInt8.ofNat n.toNat)) s).data.toList = s.data.toList ++ ns.map fun n => UInt8.ofNat n.toNat := by
  induction ns with
  | nil => intro s; simp
  | cons n ns ih =>
    intro s
    rw [List.foldl_cons, ih]
    simp [ByteArray.data_push]
theorem sound_b2s {s d e : TypeId} {x : Operand} {x' : AO} (ho : o.op = .convert s d x) (hx : chkO x x' = true) (hs : P.underlying s = some (.slice e)) (hd : P.underlying d = some .string) (hu : P.underlying e = some (.int .u8)) (hF : FRel g N fr a.tmps) (hW : WRel (mkEnv P bn) g st w)
    (he : evalA (.b2s x') fr st = some (v, st')) : Good P (mkEnv P bn) g w o a v st' := by
  simp only [evalA, Option.bind_eq_some_iff] at he
  obtain ⟨u, hxu, he⟩ := he
  split at he
  · rename_i l c
    simp only [Option.bind_eq_some_iff, Option.some.injEq, Prod.mk.injEq] at he
    obtain ⟨s0, hs0, rfl, rfl⟩ := he
    have hr := chkO_sound hx hF hxu
    obtain ⟨hfl, ns, hns, hs0'⟩ := strOf_flat hs0
    obtain ⟨cvs, h1, h2, h3, _, _⟩ := src_cells (P := P) (st := st) (sz := 1) (m := l) (by simp [elemsOf]) hr hW (Nat.le_refl _)
    rw [List.take_length, hfl, hns] at h3
    have hcv := h3.ints
    have h2' := h2 w rfl
    have hcv' : cvs = (ns.map (Value.int .u8)).toArray := by rw [← hcv]
    generalize hxe : a.eval x = cx at hr h2'
    have hlen : l.length = ns.length := by rw [hns]; simp
    cases hr with
    | lst hn hs' hone hc himm hl hr' =>
      rename_i base n cap cvs0
      subst hn
      cases base with
      | none =>
        simp [Builtin.firstCells] at h2'
        have hns0 : ns = [] := by
          have : (ns.map (Value.int .u8)).length = 0 := by rw [← hcv, h2']; rfl
          simpa using this
        refine Good.pure hW (c := .string .empty) (by simp [execOp, ho, hxe, run_convert_bytes_string w s d e none l.length cap hs hu hd, Conv.bytesToString]) (.str ?_)
        rw [hs0', hns0]; rfl
      | some ad =>
        simp only [Builtin.firstCells, Nat.mul_one] at h2'
        rw [hcv'] at h2'
        have := run_bytesToString w ad l.length cap ns h2'
        refine Good.pure hW (c := _) (by simp [execOp, ho, hxe, run_convert_bytes_string w s d e (some ad) l.length cap hs hu hd, this]; rfl) (.str ?_)
        rw [push_all, hs0']; simp
  · cases he
def zsizeIs (P : Program) (t sz : Nat) : Bool := match P.underlying t with | some (.slice e) => (match P.info? e with | some i => (match i.zero with | some z => z.cells.size == sz | none => false) | none => false) | _ => false
def bytesT (P : Program) (t : TypeId) : Bool := match P.underlying t with | some (.slice e) => (match P.underlying e with | some (.int .u8) => true | _ => false) | _ => false
def elemZ (P : Program) (t : TypeId) (z : V) : Bool := match P.underlying t with | some (.slice e) => zeroIs P e z && z.notTup | _ => false
def mapZ (P : Program) (t : TypeId) (z : V) : Bool := match P.underlying t with | some (.map _ e) => zeroIs P e z | _ => false
def isIntT (P : Program) (t : TypeId) : Bool := match P.underlying t with | some (.int _) => true | _ => false
def concT (P : Program) (t : TypeId) : Bool := match P.underlying t with | some (.interface _) => false | some _ => true | none => false
def lenAIs (P : Program) (t n : Nat) : Bool :=
  match P.underlying t with
  | some (.array m _) => m == n
  | some (.pointer u) => (match P.underlying u with | some (.array m _) => m == n | _ => false)
  | _ => false
def fldIs (P : Program) (s f off n : Nat) (agg : Bool) : Bool :=
  match P.underlying s with
  | some (.struct fs) => (match fs[f]? with | some fl => fl.offset == off && partIs P fl.type n agg | none => false)
  | _ => false
def ixAIs (P : Program) (t n sz : Nat) (agg : Bool) : Bool :=
  match P.underlying t with
  | some (.array m e) => m == n && partIs P e sz agg
  | _ => false
def buildIs (P : Program) (t : TypeId) (ps : List (Nat × Operand)) (qs : List (Nat × Nat × AO)) : Bool :=
  match P.underlying t with
  | some (.struct fs) => fieldsOk P fs.toList && chkPs (fun i => (fs.toList.map fun f => (f.offset, P.cellsOf f.type))[i]?) ps qs
  | some (.array _ e) => (match P.info? e with | some i => chkPs (fun j => some (j * i.size, i.size)) ps qs | none => false)
  | _ => false
def beqOp : BinOp → BinOp → Bool
  | .add, .add | .sub, .sub | .mul, .mul | .quo, .quo | .rem, .rem | .and, .and | .or, .or | .xor, .xor | .andNot, .andNot | .shl, .shl | .shr, .shr | .eql, .eql | .neq, .neq | .lss, .lss | .leq, .leq | .gtr, .gtr | .geq, .geq => true
  | _, _ => false
theorem beqOp_eq {x y : BinOp} (h : beqOp x y = true) : x = y := by cases x <;> cases y <;> first | rfl | (simp [beqOp] at h)
def beqUn : UnOp → UnOp → Bool
  | .not, .not | .neg, .neg => true
  | _, _ => false
theorem beqUn_eq {x y : UnOp} (h : beqUn x y = true) : x = y := by cases x <;> cases y <;> first | rfl | (simp [beqUn] at h)
def chkCall (P : Program) (b : Builtin) (args : List Operand) (ts : List TypeId) (ao : AOp) : Bool :=
  match b, args, ts, ao with
  | .len, [x], t :: _, .len k y => chkO x y && lenIs P t k
  | .len, [_], t :: _, .lenA n => lenAIs P t n
  | .cap, [x], t :: _, .capv y => chkO x y && (match P.underlying t with | some (.slice _) => true | _ => false)
  | .min, xs, _, .mm false ys => chkOs xs ys
  | .max, xs, _, .mm true ys => chkOs xs ys
  | .append, [x, y], t :: t2 :: _, .app sz bytes false x' y' => elemZero P t sz bytes && notInt P t2 && chkO x x' && chkO y y'
  | .append, [x, y], t :: t2 :: _, .appz sz bytes z x' y' => elemZero P t sz bytes && elemZ P t z && isIntT P t2 && chkO x x' && chkO y y'
  | .copy, [x, y], t :: _, .cpy sz x' y' => sliceElem P t sz && chkO x x' && chkO y y'
  | .delete, [x, y], t :: _, .del x' y' => mapInt P t && chkO x x' && chkO y y'
  | _, _, _, _ => false
def chkOp (P : Program) (op : Op) (ao : AOp) : Bool :=
  match op, ao with
  | .move x, .mv y => chkO x y
  | .assign x, .mv y => chkO x y
  | .pick c x y, .pick c' x' y' => chkO c c' && chkO x x' && chkO y y'
  | .alloc t, .alloc z => zcs P t z
  | .box _ x, .box y => chkO x y
  | .build t ps, .build z qs => zcs P t z && buildIs P t ps.toList qs
  | .buildSlice t n ps, .lits sz qs => sliceElem P t sz && zsizeIs P t sz && chkLits 0 ps.toList qs && n == qs.length && decide (n * sz ≤ 2 ^ 24)
  | .load t x, .ld n agg y => chkO x y && aggIs P t agg && szIs P t n
  | .store t x u, .sto n y z => chkO x y && chkO u z && szIs P t n
  | .nilCheck x, .nilc y => chkO x y
  | .binOp op _ x y _, .bin op' x' y' => beqOp op op' && chkO x x' && chkO y y'
  | .binOp .eql t x y _, .eqv k false x' y' => kindIs P t k && chkO x x' && chkO y y'
  | .binOp .neq t x y _, .eqv k true x' y' => kindIs P t k && chkO x x' && chkO y y'
  | .unOp op _ x, .un op' y => beqUn op op' && chkO x y
  | .convert s d x, .cint k y => chkO x y && intKindIs P d k && (P.underlying s).isSome
  | .convert s d x, .cid y => chkO x y && strIs P d && (P.underlying s).isSome
  | .convert s d x, .b2s y => chkO x y && bytesT P s && strIs P d
  | .convert s d x, .s2b y => chkO x y && strIs P s && bytesT P d
  | .convert s d x, .mark y => chkO x y && s == d && bytesT P s
  | .sliceToArrayPointer t x, .arr n sz y => chkO x y && sz != 0 && (match P.underlying t with | some (.array m _) => m == n | _ => false)
  | .fieldAddr s x f, .fa off y => chkO x y && faIs P s f off
  | .field s x f, .fld off n agg y => chkO x y && fldIs P s f off n agg
  | .indexAddr t x i, .ia sz y j => chkO x y && chkO i j && sliceElem P t sz
  | .indexAddr t (.global k) i, .iaG k' n sz tcs j => k == k' && (tabs P).any (fun e => e.1 == k && cvs tcs e.2) && chkO i j && arrElem P t n sz
  | .indexAddr t x i, .iaA n sz y j => chkO x y && chkO i j && arrElem P t n sz
  | .index t x i, .ixA n sz agg y j => chkO x y && chkO i j && ixAIs P t n sz agg
  | .index t x i, .ixS y j => chkO x y && chkO i j && strIs P t
  | .extract x i, .ext y j => chkO x y && i == j
  | .makeFunc (.func f) first cap, .mkf f' cap' => f == f' && first.isEmpty && chkOs cap.toList cap'
  | .makeMap _ none, .mkm => true
  | .makeSlice t l c, .mks sz bytes z _ l' c' => elemZero P t sz bytes && elemZ P t z && chkO l l' && chkO c c'
  | .slice t x lo hi mx, .sl sz y lo' hi' mx' => chkO x y && chkB lo lo' && chkB hi hi' && chkB mx mx' && (mx.isNone || hi.isSome) && sliceElem P t sz
  | .slice t x lo hi none, .slA n sz y lo' hi' => chkO x y && chkB lo lo' && chkB hi hi' && arrElem P t n sz
  | .slice t x lo hi none, .slS y lo' hi' => chkO x y && chkB lo lo' && chkB hi hi' && strIs P t
  | .lookup t x k ok, .look z y j ok' => chkO x y && chkO k j && ok == ok' && mapInt P t && mapZ P t z
  | .mapUpdate t x k u, .mup y j z => chkO x y && chkO k j && chkO u z && mapInt P t
  | .makeInterface t x, .mki t' y => t == t' && chkO x y && concT P t
  | .call { callee := .builtin b, args, argTypes }, ao => chkCall P b args.toList argTypes.toList ao
  | _, _ => false
theorem strIs_some {t : TypeId} (h : strIs P t = true) : P.underlying t = some .string := by
  unfold strIs at h; split at h <;> simp_all
theorem bytesT_some {t : TypeId} (h : bytesT P t = true) : ∃ e, P.underlying t = some (.slice e) ∧ P.underlying e = some (.int .u8) := by
  unfold bytesT at h
  cases hu : P.underlying t with
  | none => simp [hu] at h
  | some d =>
    cases d with
    | slice e =>
      simp only [hu] at h
      refine ⟨e, rfl, ?_⟩
      split at h
      · assumption
      · cases h
    | _ => simp [hu] at h
theorem elemZ_some {t : TypeId} {z : V} (h : elemZ P t z = true) : (∀ e, P.underlying t = some (.slice e) → zeroIs P e z = true) ∧ z.notTup = true := by
  unfold elemZ at h
  cases hu : P.underlying t with
  | none => simp [hu] at h
  | some d =>
    cases d with
    | slice e =>
      simp only [hu, Bool.and_eq_true] at h
      exact ⟨fun e' he' => by cases he'; exact h.1, h.2⟩
    | _ => simp [hu] at h
theorem toArr1 {α : Type} {xs : Array α} {x : α} (h : xs.toList = [x]) : xs = #[x] := by
  cases xs; simp at h; subst h; rfl
theorem toArr2 {α : Type} {xs : Array α} {x y : α} (h : xs.toList = [x, y]) : xs = #[x, y] := by
  cases xs; simp at h; subst h; rfl
theorem get0 {α : Type} {xs : Array α} {x : α} {r : List α} (h : xs.toList = x :: r) : xs[0]? = some x := by
  cases xs; simp at h; subst h; rfl
theorem get1 {α : Type} {xs : Array α} {x y : α} {r : List α} (h : xs.toList = x :: y :: r) : xs[1]? = some y := by
  cases xs; simp at h; subst h; rfl
theorem call_sound {b : Builtin} {args : Array Operand} {ts : Array TypeId} {ao : AOp} (ho : o.op = .call { callee := .builtin b, args := args, argTypes := ts }) (hc : chkCall P b args.toList ts.toList ao = true)
    (hF : FRel g N fr a.tmps) (hW : WRel (mkEnv P bn) g st w) (he : evalA ao fr st = some (v, st')) : Good P (mkEnv P bn) g w o a v st' := by
  generalize hal : args.toList = al at hc
  generalize htl : ts.toList = tl at hc
  unfold chkCall at hc
  split at hc
  · simp only [Bool.and_eq_true] at hc
    rw [toArr1 hal] at ho
    exact sound_len ho (get0 htl) hc.1 hc.2 hF hW he
  · rw [toArr1 hal] at ho
    rename_i t _ n
    unfold lenAIs at hc
    cases hu : P.underlying t with
    | none => simp [hu] at hc
    | some d =>
      cases d with
      | array m e =>
        simp [hu] at hc; subst hc
        exact sound_lenA ho (get0 htl) (.inl hu) hW he
      | pointer u =>
        simp only [hu] at hc
        cases hu2 : P.underlying u with
        | none => simp [hu2] at hc
        | some d2 =>
          cases d2 with
          | array m e =>
            simp [hu2] at hc; subst hc
            exact sound_lenA ho (get0 htl) (.inr ⟨u, hu, hu2⟩) hW he
          | _ => simp [hu2] at hc
      | _ => simp [hu] at hc
  · simp only [Bool.and_eq_true] at hc
    rw [toArr1 hal] at ho
    obtain ⟨h1, h2⟩ := hc
    split at h2
    · rename_i e hu
      exact sound_capv ho (get0 htl) h1 hu hF hW he
    · cases h2
  · exact sound_mm (isMax := false) ho (by rw [hal]; exact hc) hF hW he
  · exact sound_mm (isMax := true) ho (by rw [hal]; exact hc) hF hW he
  · simp only [Bool.and_eq_true] at hc
    rw [toArr2 hal] at ho
    exact sound_app ho (get0 htl) (get1 htl) hc.1.1.1 hc.1.1.2 hc.1.2 hc.2 hF hW he
  · simp only [Bool.and_eq_true] at hc
    rw [toArr2 hal] at ho
    obtain ⟨hz, hzn⟩ := elemZ_some hc.1.1.1.2
    have hk := hc.1.1.2
    unfold isIntT at hk
    split at hk
    · rename_i k hu
      exact sound_appz ho (get0 htl) (get1 htl) hc.1.1.1.1 hz hzn hu hc.1.2 hc.2 hF hW he
    · cases hk
  · simp only [Bool.and_eq_true] at hc
    rw [toArr2 hal] at ho
    exact sound_cpy ho (get0 htl) hc.1.1 hc.1.2 hc.2 hF hW he
  · simp only [Bool.and_eq_true] at hc
    rw [toArr2 hal] at ho
    exact sound_del ho (get0 htl) hc.1.1 hc.1.2 hc.2 hF hW he
  · cases hc
theorem evalA_sound {ao : AOp} (hc : chkOp P o.op ao = true) (hF : FRel g N fr a.tmps) (hW : WRel (mkEnv P bn) g st w) (he : evalA ao fr st = some (v, st')) : Good P (mkEnv P bn) g w o a v st' := by
  generalize ho : o.op = op at hc
  unfold chkOp at hc
  split at hc
  · exact sound_mv (.inl ho) hc hF hW he
  · exact sound_mv (.inr ho) hc hF hW he
  · 
    simp only [Bool.and_eq_true] at hc
    exact sound_pick ho hc.1.1 hc.1.2 hc.2 hF hW he
  · exact sound_alloc ho hc hW he
  · exact sound_box ho hc hF hW he
  · 
    simp only [Bool.and_eq_true] at hc
    obtain ⟨hz, hb⟩ := hc
    unfold buildIs at hb
    rename_i t ps z qs
    cases hu : P.underlying t with
    | none => simp [hu] at hb
    | some d =>
      cases d with
      | struct fs =>
        simp only [hu, Bool.and_eq_true] at hb
        exact sound_build ho hz hu (place := fun i => (fs.toList.map fun f => (f.offset, P.cellsOf f.type))[i]?) ⟨hb.1, rfl⟩ hb.2 hF hW he
      | array m e =>
        simp only [hu] at hb
        cases hi : P.info? e with
        | none => simp [hi] at hb
        | some i =>
          simp only [hi] at hb
          exact sound_build ho hz hu (place := fun j => some (j * i.size, i.size)) ⟨i.size, by simp [szIs, hi], rfl⟩ hb hF hW he
      | _ => simp [hu] at hb
  · 
    simp only [Bool.and_eq_true, beq_iff_eq, decide_eq_true_eq] at hc
    obtain ⟨⟨⟨⟨h1, h2⟩, h3⟩, h4⟩, h5⟩ := hc
    refine sound_lits ho h1 ?_ h3 h4 h5 hF hW he
    intro e hu
    unfold zsizeIs at h2
    simp only [hu] at h2
    cases hi : P.info? e with
    | none => simp [hi] at h2
    | some i =>
      cases hz : i.zero with
      | none => simp [hi, hz] at h2
      | some z => exact ⟨i, z, rfl, hz, by simpa [hi, hz] using h2⟩
  · simp only [Bool.and_eq_true] at hc
    exact sound_ld ho hc.1.1 hc.1.2 hc.2 hF hW he
  · simp only [Bool.and_eq_true] at hc
    exact sound_sto ho hc.1.1 hc.1.2 hc.2 hF hW he
  · exact sound_nilc ho hc hF hW he
  · simp only [Bool.and_eq_true] at hc
    rw [← beqOp_eq hc.1.1] at he
    exact sound_bin ho hc.1.2 hc.2 hF hW he
  · simp only [Bool.and_eq_true] at hc
    exact sound_eqv (neq := false) ho hc.1.1 hc.1.2 hc.2 hF hW he
  · simp only [Bool.and_eq_true] at hc
    exact sound_eqv (neq := true) ho hc.1.1 hc.1.2 hc.2 hF hW he
  · simp only [Bool.and_eq_true] at hc
    rw [← beqUn_eq hc.1] at he
    exact sound_un ho hc.2 hF hW he
  · simp only [Bool.and_eq_true] at hc
    exact sound_cint ho hc.1.1 hc.1.2 hc.2 hF hW he
  · simp only [Bool.and_eq_true] at hc
    exact sound_cid ho hc.1.1 hc.1.2 hc.2 hF hW he
  · simp only [Bool.and_eq_true] at hc
    obtain ⟨e, h1, h2⟩ := bytesT_some hc.1.2
    exact sound_b2s ho hc.1.1 h1 (strIs_some hc.2) h2 hF hW he
  · simp only [Bool.and_eq_true] at hc
    obtain ⟨e, h1, h2⟩ := bytesT_some hc.2
    exact sound_s2b ho hc.1.1 h1 (strIs_some hc.1.2) h2 hF hW he
  · simp only [Bool.and_eq_true, beq_iff_eq] at hc
    obtain ⟨⟨h1, rfl⟩, h3⟩ := hc
    obtain ⟨e, h4, h5⟩ := bytesT_some h3
    exact sound_mark ho h1 h4 h5 hF hW he
  · simp only [Bool.and_eq_true, bne_iff_ne, ne_eq] at hc
    obtain ⟨⟨h1, h2⟩, h3⟩ := hc
    split at h3
    · rename_i m e hu
      simp only [beq_iff_eq] at h3
      subst h3
      exact sound_arr ho h1 hu hF hW h2 he
    · cases h3
  · simp only [Bool.and_eq_true] at hc
    exact sound_fa ho hc.1 hc.2 hF hW he
  · simp only [Bool.and_eq_true] at hc
    obtain ⟨h1, h2⟩ := hc
    unfold fldIs at h2
    rename_i s x f off n agg y
    cases hu : P.underlying s with
    | none => simp [hu] at h2
    | some d =>
      cases d with
      | struct fs =>
        simp only [hu] at h2
        cases hf : fs[f]? with
        | none => simp [hf] at h2
        | some fl =>
          simp only [hf, Bool.and_eq_true, beq_iff_eq] at h2
          exact sound_fld ho h1 hu hf h2.1 h2.2 hF hW he
      | _ => simp [hu] at h2
  · simp only [Bool.and_eq_true] at hc
    exact sound_ia ho hc.1.1 hc.1.2 hc.2 hF hW he
  · simp only [Bool.and_eq_true, beq_iff_eq, List.any_eq_true] at hc
    obtain ⟨⟨⟨rfl, e, he1, he2, he3⟩, h1⟩, h2⟩ := hc
    obtain ⟨e1, e2⟩ := e
    simp only at he2 he3
    subst he2
    exact sound_iaG (tab := e2) ho he1 he3 h1 h2 hF hW he
  · simp only [Bool.and_eq_true] at hc
    exact sound_iaA ho hc.1.1 hc.1.2 hc.2 hF hW he
  · simp only [Bool.and_eq_true] at hc
    obtain ⟨⟨h1, h2⟩, h3⟩ := hc
    unfold ixAIs at h3
    rename_i t x i n sz agg y j
    cases hu : P.underlying t with
    | none => simp [hu] at h3
    | some d =>
      cases d with
      | array m e =>
        simp only [hu, Bool.and_eq_true, beq_iff_eq] at h3
        obtain ⟨rfl, h3⟩ := h3
        exact sound_ixA ho h1 h2 hu h3 hF hW he
      | _ => simp [hu] at h3
  · simp only [Bool.and_eq_true] at hc
    exact sound_ixS ho hc.1.1 hc.1.2 hc.2 hF hW he
  · simp only [Bool.and_eq_true, beq_iff_eq] at hc
    obtain ⟨h1, rfl⟩ := hc
    exact sound_ext ho h1 hF hW he
  · simp only [Bool.and_eq_true, beq_iff_eq] at hc
    obtain ⟨⟨rfl, h2⟩, h3⟩ := hc
    rename_i first _ _
    have hfirst : first = #[] := by simpa using h2
    subst hfirst
    exact sound_mkf ho h3 hF hW he
  · exact sound_mkm ho hW he
  · simp only [Bool.and_eq_true] at hc
    obtain ⟨hz, hzn⟩ := elemZ_some hc.1.1.2
    exact sound_mks ho hc.1.1.1 hz hzn hc.1.2 hc.2 hF hW he
  · simp only [Bool.and_eq_true] at hc
    exact sound_sl ho hc.1.1.1.1.1 hc.1.1.1.1.2 hc.1.1.1.2 hc.1.1.2 hc.1.2 hc.2 hF hW he
  · simp only [Bool.and_eq_true] at hc
    exact sound_slA ho hc.1.1.1 hc.1.1.2 hc.1.2 hc.2 hF hW he
  · simp only [Bool.and_eq_true] at hc
    exact sound_slS ho hc.1.1.1 hc.1.1.2 hc.1.2 hc.2 hF hW he
  · simp only [Bool.and_eq_true, beq_iff_eq] at hc
    obtain ⟨⟨⟨⟨h1, h2⟩, rfl⟩, h4⟩, h5⟩ := hc
    refine sound_look ho h4 ?_ h1 h2 hF hW he
    intro kt e hu
    unfold mapZ at h5
    simpa [hu] using h5
  · simp only [Bool.and_eq_true] at hc
    exact sound_mup ho hc.2 hc.1.1.1 hc.1.1.2 hc.1.2 hF hW he
  · simp only [Bool.and_eq_true, beq_iff_eq] at hc
    obtain ⟨⟨rfl, h2⟩, h3⟩ := hc
    refine sound_mki ho h2 ?_ hF hW he
    unfold concT at h3
    rename_i t x y
    cases hu : P.underlying t with
    | none => simp [hu] at h3
    | some d => cases d <;> simp_all
  · exact call_sound ho hc hF hW he
  · cases hc
end
end Go.Sim
