/- Merged by a program of mine (pack.py) out of my own texts; what is not used is left out. -/
import Derived.Test.YtffenelcgjdbiaaGreatDoorKOramPlays43
import Derived.WalkKit
import Derived.Below
import Derived.Ground.NamesProg
import Derived.Shelf.Sort.Plain
import Derived.Ground.Names2Prog
import Derived.RangeFuncBound
import Derived.RangeFuncGives
import Derived.RangeFuncSeq
import Derived.Sort.MapsRangeIn
import Derived.Sort.KeysCollected
import Derived.Sort.OwnSorted
import Derived.Lib.SlKeysI
import Derived.OwnWalkIn
import Derived.TacticsInMore
import Derived.RegionIn
import Derived.LoopNIn
import Derived.LoopIn
import Derived.Maps.AppendAt
import Derived.Shelf.Abstract
import Derived.Shelf.Slices.In.SortNone
import Derived.Test.YtffenelcgjdbiaaGreatDoorRows
import Derived.ProofKit
import Derived.LaidMore
import Derived.OpenShut
import Derived.Stop.Joined
set_option linter.unusedVariables false
set_option linter.unusedSimpArgs false
namespace Go.Proofs
open Go.RowKit Go.Maps Go.Sort Go.Shelf
def Tryz.lays189_ren : Go.Shelf.Ren := ⟨fun | 189 => 97 | 125 => 111 | 257 => 110 | 128 => 135 | 129 => 136 | 294 => 126 | 295 => 127 | 296 => 128 | 297 => 129 | 298 => 130 | 299 => 131 | 216 => 132 | 300 => 133 | 301 => 134 | 328 => 146 | 329 => 147 | 330 => 148 | 331 => 149 | 332 => 150 | 215 => 151 | 343 => 154 | n => n, fun | 28 => 85 | 3 => 3 | 46 => 32 | 0 => 0 | 51 => 57 | 53 => 43 | 4 => 4 | 183 => 170 | 182 => 169 | 131 => 136 | 5 => 5 | 9 => 9 | 218 => 187 | 222 => 190 | 228 => 193 | 229 => 194 | n => n, fun | n => n⟩
theorem Tryz.lays189 : Go.Proofs.Lays.n189 Tryz.prog Tryz.lays189_ren := {
  mixed := by kernel_rfl
  f125 := Tryz.func111.trans (congrArg some (by kernel_rfl))
  f128 := Tryz.func135.trans (congrArg some (by kernel_rfl))
  f129 := Tryz.func136.trans (congrArg some (by kernel_rfl))
  f189 := Tryz.func97.trans (congrArg some (by kernel_rfl))
  f215 := Tryz.func151.trans (congrArg some (by kernel_rfl))
  f216 := Tryz.func132.trans (congrArg some (by kernel_rfl))
  f257 := Tryz.func110.trans (congrArg some (by kernel_rfl))
  f294 := Tryz.func126.trans (congrArg some (by kernel_rfl))
  f295 := Tryz.func127.trans (congrArg some (by kernel_rfl))
  f296 := Tryz.func128.trans (congrArg some (by kernel_rfl))
  f297 := Tryz.func129.trans (congrArg some (by kernel_rfl))
  f298 := Tryz.func130.trans (congrArg some (by kernel_rfl))
  f299 := Tryz.func131.trans (congrArg some (by kernel_rfl))
  f300 := Tryz.func133.trans (congrArg some (by kernel_rfl))
  f301 := Tryz.func134.trans (congrArg some (by kernel_rfl))
  f328 := Tryz.func146.trans (congrArg some (by kernel_rfl))
  f329 := Tryz.func147.trans (congrArg some (by kernel_rfl))
  f330 := Tryz.func148.trans (congrArg some (by kernel_rfl))
  f331 := Tryz.func149.trans (congrArg some (by kernel_rfl))
  f332 := Tryz.func150.trans (congrArg some (by kernel_rfl))
  f343 := Tryz.func154.trans (congrArg some (by kernel_rfl))
  t0 := Tryz.underlying0
  a0 := Tryz.isAgg0
  z0 := Tryz.sizeOf0
  v0 := Tryz.zeroValue0
  t3 := Tryz.underlying3
  a3 := Tryz.isAgg3
  z3 := Tryz.sizeOf3
  v3 := Tryz.zeroValue3
  t4 := Tryz.underlying4
  a4 := Tryz.isAgg4
  z4 := Tryz.sizeOf4
  v4 := Tryz.zeroValue4
  t5 := Tryz.underlying5
  a5 := Tryz.isAgg5
  z5 := Tryz.sizeOf5
  v5 := Tryz.zeroValue5
  t9 := Tryz.underlying9
  a9 := Tryz.isAgg9
  z9 := Tryz.sizeOf9
  v9 := Tryz.zeroValue9
  t28 := Tryz.underlying85
  a28 := Tryz.isAgg85
  z28 := Tryz.sizeOf85
  v28 := Tryz.zeroValue85
  t46 := Tryz.underlying32
  a46 := Tryz.isAgg32
  z46 := Tryz.sizeOf32
  v46 := Tryz.zeroValue32
  t51 := Tryz.underlying57
  a51 := Tryz.isAgg57
  z51 := Tryz.sizeOf57
  v51 := Tryz.zeroValue57
  t53 := Tryz.underlying43
  a53 := Tryz.isAgg43
  z53 := Tryz.sizeOf43
  v53 := Tryz.zeroValue43
  t131 := Tryz.underlying136
  a131 := Tryz.isAgg136
  z131 := Tryz.sizeOf136
  v131 := Tryz.zeroValue136
  t182 := Tryz.underlying169
  a182 := Tryz.isAgg169
  z182 := Tryz.sizeOf169
  v182 := Tryz.zeroValue169
  t183 := Tryz.underlying170
  a183 := Tryz.isAgg170
  z183 := Tryz.sizeOf170
  v183 := Tryz.zeroValue170
  t218 := Tryz.underlying187
  a218 := Tryz.isAgg187
  z218 := Tryz.sizeOf187
  v218 := Tryz.zeroValue187
  t222 := Tryz.underlying190
  a222 := Tryz.isAgg190
  z222 := Tryz.sizeOf190
  v222 := Tryz.zeroValue190
  t228 := Tryz.underlying193
  a228 := Tryz.isAgg193
  z228 := Tryz.sizeOf193
  v228 := Tryz.zeroValue193
  t229 := Tryz.underlying194
  a229 := Tryz.isAgg194
  z229 := Tryz.sizeOf194
  v229 := Tryz.zeroValue194 }
set_option maxRecDepth 100000 in
set_option maxHeartbeats 1000000 in
theorem Tryz.keys1N_in {H : Type} {R : Value → Option (DataW H × List MemPlace)} (F : Fence) (n : Nat) (h10 : F.fn 98) (hro : F.round = none) (hn : 1 ≤ n) (l Bm b nn : Nat) (D0 : DataW H) (J : List Int → World → Prop)
    (hY : ∀ pre x W, J pre W → pre.length < Maps.size D0 → YieldAt F (n - 1) Tryz.prog l #[encZ x] W fun e W' => e = .returned (.bool true) ∧ J (pre ++ [x]) W' ∧ KeepsWalks W W')
    (W : World) (hJ : AbidesFrom W.heap.size J) (hm : W.cell? ⟨Bm, 0, none⟩ = some (.map (some b))) (hown : W.ownsMap Tryz.prog 3 R b nn D0) (h0 : J [] W) :
    CallsIn F n Tryz.prog 98 #[.func (.yield l) #[] #[], .pointer (some ⟨Bm, 0, none⟩)] W fun e W' => (∃ v, e = .returned v) ∧ ∃ ss : List Int, ss.Perm (intKeys D0) ∧ J ss W' := by
  refine callsIn_of_wp Tryz.func98 rfl h10 ?_ hro
  simp only [Tryz.ntmps98, List.size_toArray, List.length_cons, List.length_nil, Nat.reduceAdd, Nat.reduceSub, Array.replicate_succ, Array.replicate_zero, List.push_toArray, List.append_toArray, List.nil_append, List.cons_append]
  gi_wp2_with (first
    | (gi_at_range; refine wpListIn_range_own _ rfl _ 115 rfl 3 77 (int_keyed Tryz.underlying3) Tryz.underlying115 _ b nn _ rfl hown ?_; intro w0 hrg0 hg0 hs0)
    | gi_in)
  go_frame
  gi_loopw [3] (fun _ wr => ∃ (left : Lit → Bool) (cnt : Nat) (ss : List Int), wr.ranges Tryz.prog 3 R b W.heap.size nn D0 left cnt ∧ ss.length + cnt ≤ Maps.size D0 ∧ CollectedI D0 left ss ∧ J ss wr)
    (fun _ wr => wr.rangeLeft b W.heap.size)
  case atStart =>
    exact ⟨_, _, [], hrg0, by simp, CollectedI.start D0, hJ [] W w0 none h0 hg0 (fun r e => by cases e)⟩
  case round =>
    obtain ⟨left, cnt, ss, hrg, hcs, hC, hJs⟩ := hrel
    gi_wp2_with (first
      | (gi_at_next; refine wpListIn_next_ranges _ rfl _ rfl 3 (int_keyed Tryz.underlying3) R encZ id (fun key kl hk => by obtain ⟨x, hx, _⟩ := Maps.keyOf_i64 Tryz.underlying3 hk; exact ⟨x, hx⟩) (fun v _ _ => ⟨v, rfl⟩) b W.heap.size nn _ _ _ rfl hrg ?_ ?_)
      | gi_in)
    · 
      intro hc0 hl0
      gi_wp2
      go_end0
      exact ⟨⟨_, rfl⟩, ss, hC.perm hown (int_keyed Tryz.underlying3) Tryz.underlying3 hl0, hJs⟩
    · 
      intro x c kl yd yp w2 cnt2 hkey hlk hv hat hrg2 hlt hg2 hs2 hen
      obtain ⟨x', ex, rfl, _⟩ := Maps.keyOf_i64 Tryz.underlying3 hkey
      obtain rfl : x = x' := encZ_inj ex
      have hJ2 : J ss w2 := hJ ss wr w2 (some W.heap.size) hJs hg2 (fun r e => by cases e; exact ⟨Nat.le_refl _, hrg.iter_walk⟩)
      obtain ⟨fn, tmps, assign, body, hy, hR⟩ := hY ss x w2 hJ2 (by omega)
      clear hs2
      gi_wp2
      refine hR.mono ?_
      rintro e W3 ⟨rfl, hJ3, hk3⟩
      gi_wp2
      have hrg3 := hrg2.of_walks hk3
      go_roundw
      case rel => exact ⟨_, cnt2, ss ++ [x], hrg3, by simp; omega, hC.step hlk hat, hJ3⟩
      case measure => rw [hrg3.left_eq, hrg.left_eq]; exact hlt
theorem Tryz.keys_gives {H : Type} {R : Value → Option (DataW H × List MemPlace)} (F : Fence) (n : Nat) (h10 : F.fn 98) (hro : F.round = none) (hn : 1 ≤ n) (Bm b nn : Nat) (D0 : DataW H) (w : World) (hBm : Bm < w.heap.size)
    (hm : w.cell? ⟨Bm, 0, none⟩ = some (.map (some b))) (hown : w.ownsMap Tryz.prog 3 R b nn D0) :
    SeqGives F n Tryz.prog 98 #[.pointer (some ⟨Bm, 0, none⟩)] encZ (fun ss => ss.Perm (intKeys D0)) (Maps.size D0) w := fun l J W hW hJ hY h0 => by
  have hown' : W.ownsMap Tryz.prog 3 R b nn D0 := by
    have hbl := hown.lt
    obtain ⟨es, clock, hb, Ft, hs, hD⟩ := hown
    exact ⟨es, clock, (hW.block b hbl).trans hb, Ft, hs, hD⟩
  exact Tryz.keys1N_in F n h10 hro hn l Bm b nn D0 J hY W hJ ((hW.cell (p := ⟨Bm, 0, none⟩) hBm).trans hm) hown' h0
def Tryz.apAssign : Code := (Code.region 2 #[{ dst := some 5, op := Op.assign (Operand.tmp 7), type := 3, pos := "iter.go:51", after := #[], guard := none }] false)
def Tryz.apBody : Code := (Code.block 1 (Code.region 3 #[{ dst := some 8, op := Op.load 85 (Operand.tmp 2), type := 85, pos := "iter.go:52", after := #[], guard := none }, { dst := some 9, op := Op.move (Operand.tmp 5), type := 3, pos := "iter.go:52", after := #[], guard := none }, { dst := some 10, op := Op.buildSlice 85 1 #[(0, Operand.tmp 9)], type := 85, pos := "iter.go:52", after := #[{ on := 1, ground := Ground.data }], guard := none }, { dst := some 11, op := Op.call { callee := Callee.builtin Builtin.append, args := #[Operand.tmp 8, Operand.tmp 10], argTypes := #[85, 85] }, type := 85, pos := "iter.go:52", after := #[{ on := 0, ground := Ground.data }, { on := 2, ground := Ground.data }], guard := none }, { dst := none, op := Op.store 85 (Operand.tmp 2) (Operand.tmp 11), type := 0, pos := "iter.go:52", after := #[{ on := 3, ground := Ground.data }, { on := 3, ground := Ground.chain }, { on := 0, ground := Ground.phase }, { on := 1, ground := Ground.phase }, { on := 2, ground := Ground.phase }, { on := 3, ground := Ground.phase }], guard := none }] false))
def Tryz.apRec (fn : FuncId) (sv : Value) (Bs D : Nat) (st : LoopState) (pend : Option Code) : Loop :=
  { state := st, pending := pend, fn, tmps := #[.slice none 0 0, sv, .pointer (some ⟨Bs, 0, none⟩), undef, .slice none 0 0, undef, sv, undef, undef, undef, undef, undef, undef], params := #[7], assign := Tryz.apAssign, body := Tryz.apBody, defers := D }
structure Tryz.ApAt (w0 : World) (fn : FuncId) (sv : Value) (Bs l D : Nat) (ss : List Int) (W : World) : Prop where
  box : ∃ v, W.heap[Bs]? = some (.cells #[v] 85 (0, 0)) ∧ W.ownsRow w0.heap.size 3 1 v ss.length (ss.map encZ) ∧ (v = .slice none 0 0 ↔ ss = [])
  L : W.heap[l]? = some (.loop (Tryz.apRec fn sv Bs D .ready none))
  K : W.heap[D]? = some (.deferred (some []))
  below : Below w0.heap.size w0 W
theorem ownsRow_abides {W W' : World} {row : Option Nat} {base : Nat} {e : TypeId} {size : Nat} {v : Value} {k : Nat} {xs : List Value} (h : W.ownsRow base e size v k xs) (hg : W.grownBy W' row)
    (hrow : ∀ r, row = some r → ∃ o : Obj, W.heap[r]? = some o ∧ o.isWalk = true) : W'.ownsRow base e size v k xs := by
  refine h.kept hg ?_
  rcases h.2 with ⟨rfl, _⟩ | ⟨g, cap, cur, rfl, _, hgb, _⟩
  · exact .inl rfl
  · refine .inr fun e' => ?_
    obtain ⟨o, ho, hw⟩ := hrow g (by simpa [Value.ownBlock] using e'.symm)
    rw [hgb] at ho; cases ho; cases hw
theorem Tryz.ap_abides (w0 : World) (fn : FuncId) (sv : Value) (Bs l D B : Nat) (hB : w0.heap.size ≤ B) : AbidesFrom B (Tryz.ApAt w0 fn sv Bs l D) := fun s W W' row h hg hrow => by
  have hrow' : ∀ r, row = some r → ∃ o : Obj, W.heap[r]? = some o ∧ o.isWalk = true := fun r e => (hrow r e).2
  obtain ⟨v, hv, hr, hn⟩ := h.box
  exact ⟨⟨v, (grownBy_keeps hg hrow' hv rfl).trans hv, ownsRow_abides hr hg hrow', hn⟩, (grownBy_keeps hg hrow' h.L rfl).trans h.L, (grownBy_keeps hg hrow' h.K rfl).trans h.K,
    h.below.grown hg h.below.size (fun k e => Nat.le_trans hB (hrow k e).1)⟩
theorem grownBy_putObj (W : World) (l : Nat) (o : Obj) : W.grownBy (W.putObj l o) (some l) :=
  ⟨rfl, rfl, rfl, by simp, fun k _ hk => World.putObj_heap_other (fun e => hk (by rw [e]))⟩
theorem grownBy_setCell0 (W : World) (b : Nat) (v : Value) : W.grownBy (W.setCell ⟨b, 0, none⟩ v) (some b) :=
  ⟨rfl, rfl, rfl, (KeepsWalks.setCell W _ v).size, fun k _ hk => Below.heap_setCell _ _ _ k (fun e => hk (by rw [e]))⟩
theorem ownsRow_ne {W : World} {base : Nat} {e : TypeId} {size : Nat} {v : Value} {k : Nat} {xs : List Value} (h : W.ownsRow base e size v k xs) {j : Nat} {o : Obj} (hj : W.heap[j]? = some o) (hno : ∀ cur, o ≠ .cells cur e (0, 0)) :
    v.ownBlock = none ∨ v.ownBlock ≠ some j := by
  rcases h.2 with ⟨rfl, _⟩ | ⟨g, cap, cur, rfl, _, hgb, _⟩
  · exact .inl rfl
  · refine .inr fun e' => ?_
    have : g = j := by simpa [Value.ownBlock] using e'
    subst this; rw [hgb] at hj; cases hj; exact hno cur rfl
theorem cell_of_box {W : World} {B : Nat} {v : Value} {t : TypeId} (h : W.heap[B]? = some (.cells #[v] t (0, 0))) : W.cell? ⟨B, 0, none⟩ = some v ∧ W.frozen? ⟨B, 0, none⟩ = false := by
  constructor <;> simp [World.cell?, World.frozen?, h]
theorem heap_setCell_box {W : World} {B : Nat} {v : Value} {t : TypeId} (v' : Value) (h : W.heap[B]? = some (.cells #[v] t (0, 0))) : (W.setCell ⟨B, 0, none⟩ v').heap[B]? = some (.cells #[v'] t (0, 0)) := by
  obtain ⟨hlt, hk⟩ := Array.getElem?_eq_some_iff.1 h
  show (W.heap.modify B _)[B]? = _
  rw [Array.getElem?_eq_getElem (by rw [Array.size_modify]; exact hlt), Array.getElem_modify_self, hk]
  rfl
theorem ownsRow_not_walk {W : World} {base : Nat} {e : TypeId} {size : Nat} {v : Value} {k : Nat} {xs : List Value} (h : W.ownsRow base e size v k xs) : ∀ (j : Nat) (o : Obj), v.ownBlock = some j → W.heap[j]? = some o → o.isWalk = false := by
  intro j o hj ho
  rcases h.2 with ⟨rfl, _⟩ | ⟨g, cap, cur, rfl, _, hgb, _⟩
  · simp [Value.ownBlock] at hj
  · have : g = j := by simpa [Value.ownBlock] using hj
    subst this; rw [hgb] at ho; cases ho; rfl
theorem Tryz.info3 : (Tryz.prog.info? 3).map (fun i => (i.zero, i.size, i.bytes)) = some (some (.int .i64 0), 1, 8) := by kernel_rfl
set_option maxRecDepth 100000 in
set_option maxHeartbeats 2000000 in
theorem Tryz.apYield (F : Fence) (m : Nat) (w0 : World) (fn : FuncId) (hfn : F.fn fn) (sv : Value) (Bs l D : Nat) (hBl : Bs ≠ l) (hDl : D ≠ l) (hDB : D ≠ Bs) (h0B : w0.heap.size ≤ Bs) (h0l : w0.heap.size ≤ l)
    (N : Nat) (hN : N ≤ maxLen) (hNb : N * 8 ≤ 140737488355328) (ss : List Int) (x : Int) (W : World) (h : Tryz.ApAt w0 fn sv Bs l D ss W) (hlen : ss.length < N) :
    YieldAt F m Tryz.prog l #[encZ x] W fun e W' => e = .returned (.bool true) ∧ Tryz.ApAt w0 fn sv Bs l D (ss ++ [x]) W' ∧ KeepsWalks W W' := by
  obtain ⟨i0, hi, hz0, hz1, hz2⟩ := info_parts Tryz.info3
  obtain ⟨v, hv, hrow, _⟩ := h.box
  refine ⟨fn, #[.slice none 0 0, sv, .pointer (some ⟨Bs, 0, none⟩), undef, .slice none 0 0, undef, sv, encZ x, undef, undef, undef, undef, undef], Tryz.apAssign, Tryz.apBody, by simpa [Tryz.apRec] using run_yield (P := Tryz.prog) (args := #[encZ x]) h.L rfl, roundIn_of_wpIn hfn ?_⟩
  have hl : l < W.heap.size := (Array.getElem?_eq_some_iff.1 h.L).1
  have hbr := run_beginRound (P := Tryz.prog) h.L rfl
  obtain ⟨W2, hW2⟩ : ∃ W2, W.putObj l (.loop { Tryz.apRec fn sv Bs D .ready none with state := .busy }) = W2 := ⟨_, rfl⟩
  rw [hW2] at hbr
  have hg2 : W.grownBy W2 (some l) := by rw [← hW2]; exact grownBy_putObj _ _ _
  have hk2 : KeepsWalks W W2 := by rw [← hW2]; exact KeepsWalks.putObj _ h.L rfl
  have hv2 : W2.heap[Bs]? = some (.cells #[v] 85 (0, 0)) := by rw [← hW2]; exact (World.putObj_heap_other hBl).trans hv
  have hK2 : W2.heap[D]? = some (.deferred (some [])) := by rw [← hW2]; exact (World.putObj_heap_other hDl).trans h.K
  have hL2 : W2.heap[l]? = some (.loop { Tryz.apRec fn sv Bs D .ready none with state := .busy }) := by rw [← hW2]; exact World.putObj_heap_same hl
  have hrow2 : W2.ownsRow w0.heap.size 3 1 v ss.length (ss.map encZ) := hrow.kept hg2 (ownsRow_ne hrow h.L (fun cur e => by cases e))
  have hb2 : Below w0.heap.size w0 W2 := h.below.grown hg2 h.below.size (fun k e => by cases e; exact h0l)
  obtain ⟨hc2, hf2⟩ := cell_of_box hv2
  have hBlt : Bs < W2.heap.size := (Array.getElem?_eq_some_iff.1 hv2).1
  have hl2 : l < W2.heap.size := (Array.getElem?_eq_some_iff.1 hL2).1
  have hDlt : D < W2.heap.size := (Array.getElem?_eq_some_iff.1 hK2).1
  have ne_of : ∀ {j : Nat} {o : Obj}, W2.heap[j]? = some o → (∀ cur, o ≠ .cells cur 3 (0, 0)) → some j ≠ v.ownBlock := fun hj hno => by
    rcases ownsRow_ne hrow2 hj hno with e | e
    · rw [e]; simp
    · exact fun e' => e e'.symm
  clear hW2
  unfold Tryz.apAssign
  gi_wp2_with (rw [Oper.semAt_eq _ _ _ (fun c h => by cases h)]; go_simp; try go_bits)
  unfold Tryz.apBody
  gi_wp2_with (first
    | (gi_at_builtin; refine wpListIn_append_own _ rfl _ _ 85 rfl w0.heap.size 3 i0 (.int .i64 0) 1 8 Tryz.underlying85 hi hz0 hz1 hz2 rfl (by decide) _ _ _ rfl (hrow2.alloc _) ⟨W2.heap.size, 0, none⟩ 1 1 [encZ x] rfl rfl (cell_one_new _ _ _) (by simp [Value.oneCell', encZ]) (by omega) (by omega) (by have := hb2.size; simp; omega) ?_; intro v' w3 hown' hg3 hnil3
       have hv3 : w3.heap[Bs]? = some (.cells #[v] 85 (0, 0)) := (hg3.block Bs (by simp; omega) (ne_of hv2 (fun cur e => by cases e))).trans ((Below.heap_alloc _ _ Bs hBlt).trans hv2)
       obtain ⟨hc3, hf3⟩ := cell_of_box hv3
       obtain ⟨g', cap', cur', rfl, hbase', hgb', hr1, hr2, hr3, hr4⟩ : ∃ g' cap' cur', v' = .slice (some ⟨g', 0, none⟩) (ss.length + 1) cap' ∧ w0.heap.size ≤ g' ∧ w3.heap[g']? = some (.cells cur' 3 (0, 0)) ∧ ss.length + 1 ≤ cap' ∧ cap' ≤ maxLen ∧ cur'.size = cap' * 1 ∧ cur'.toList.take ((ss.length + 1) * 1) = ss.map encZ ++ [encZ x] := by
         rcases hown'.2 with ⟨_, h0⟩ | h'
         · exact absurd h0 (by omega)
         · exact h'
       go_frame)
    | (rw [Oper.semAt_eq _ _ _ (fun c h => by cases h)]; go_simp; try go_bits))
  have hg3' : (W2.alloc (.cells #[encZ x] 3)).grownBy w3 v.ownBlock := hg3
  have hL3 : w3.heap[l]? = some (.loop { Tryz.apRec fn sv Bs D .ready none with state := .busy }) := (hg3'.block l (by simp; omega) (ne_of hL2 (fun cur e => by cases e))).trans ((Below.heap_alloc _ _ l hl2).trans hL2)
  have hK3 : w3.heap[D]? = some (.deferred (some [])) := (hg3'.block D (by simp; omega) (ne_of hK2 (fun cur e => by cases e))).trans ((Below.heap_alloc _ _ D hDlt).trans hK2)
  obtain ⟨w4, hw4⟩ : ∃ w4, w3.setCell ⟨Bs, 0, none⟩ (.slice (some ⟨g', 0, none⟩) (ss.length + 1) cap') = w4 := ⟨_, rfl⟩
  rw [hw4]
  have hg4 : w3.grownBy w4 (some Bs) := by rw [← hw4]; exact grownBy_setCell0 _ _ _
  have hv4 : w4.heap[Bs]? = some (.cells #[.slice (some ⟨g', 0, none⟩) (ss.length + 1) cap'] 85 (0, 0)) := by rw [← hw4]; exact heap_setCell_box _ hv3
  have hL4 : w4.heap[l]? = some (.loop { Tryz.apRec fn sv Bs D .ready none with state := .busy }) := (hg4.block l (Array.getElem?_eq_some_iff.1 hL3).1 (fun e => hBl (by cases e; rfl))).trans hL3
  have hK4 : w4.heap[D]? = some (.deferred (some [])) := (hg4.block D (Array.getElem?_eq_some_iff.1 hK3).1 (fun e => hDB (by cases e; rfl))).trans hK3
  have hrow4 := hown'.kept hg4 (ownsRow_ne hown' hv3 (fun cur e => by cases e))
  have hl4 : l < w4.heap.size := (Array.getElem?_eq_some_iff.1 hL4).1
  have hb3 : Below w0.heap.size w0 w3 := (hb2.alloc hb2.size _).grown hg3' (by have := hb2.size; simp; omega) (fun k e => (hrow2.lt k e).1)
  have hb4 : Below w0.heap.size w0 w4 := hb3.grown hg4 hb3.size (fun k e => by cases e; exact h0B)
  have hk4 : KeepsWalks W w4 := ((hk2.trans (KeepsWalks.alloc _ _)).trans (KeepsWalks.of_grownBy hg3' (ownsRow_not_walk (hrow2.alloc _)))).trans (by rw [← hw4]; exact KeepsWalks.setCell _ _ _)
  clear hw4
  refine ⟨_, _, run_endRound none hL4, rfl, ⟨⟨_, (World.putObj_heap_other hBl).trans hv4, ?_, by simp⟩, World.putObj_heap_same hl4, (World.putObj_heap_other hDl).trans hK4, hb4.grown (grownBy_putObj _ _ _) hb4.size (fun k e => by cases e; exact h0l)⟩, hk4.trans (KeepsWalks.putObj _ hL4 rfl)⟩
  have := hrow4.kept (grownBy_putObj w4 l (.loop { { Tryz.apRec fn sv Bs D .ready none with state := .busy } with state := if (none : Option Code).isNone then .ready else .done, pending := none })) (ownsRow_ne hrow4 hL4 (fun cur e => by cases e))
  simpa using this
set_option maxRecDepth 100000 in
set_option maxHeartbeats 2000000 in
theorem Tryz.appendSeq_in (F : Fence) (n : Nat) (h11 : F.fn 109) (hro : F.round = none) (hn : 2 ≤ n) (g : Nat) (lb : Array Value) (hFg : F.fn g) (eg : ∀ args w, (callFunc g args).run Tryz.prog w = .ok (.enter g args) w)
    (S : List Int → Prop) (N : Nat) (hN : N ≤ maxLen) (hNb : N * 8 ≤ 140737488355328) (w : World) (hseq : SeqGives F (n - 1) Tryz.prog g lb encZ S N w) :
    CallsIn F n Tryz.prog 109 #[.slice none 0 0, .func (.func g) #[] lb] w fun e w' => ∃ (v : Value) (ss : List Int), e = .returned v ∧ S ss ∧ w'.ownsRow w.heap.size 3 1 v ss.length (ss.map encZ) ∧ (v = .slice none 0 0 ↔ ss = []) ∧ Below w.heap.size w w' := by
  have h1 : 1 ≤ n := by omega
  refine callsIn_of_wp_marks Tryz.func109 rfl h11 ?_ hro
  simp only [Tryz.ntmps109, List.size_toArray, List.length_cons, List.length_nil, Nat.reduceAdd, Nat.reduceSub, Array.replicate_succ, Array.replicate_zero, List.push_toArray, List.append_toArray, List.nil_append, List.cons_append]
  gi_wp2
  refine wpIn_rangeFunc ?_
  intro fn hfn
  rw [hro]
  obtain ⟨W0, hW0⟩ : ∃ W0, w.alloc (.cells #[.slice none 0 0] 85) = W0 := ⟨_, rfl⟩
  have hs0 : W0.heap.size = w.heap.size + 1 := by rw [← hW0]; simp
  have hv0 : W0.heap[w.heap.size]? = some (.cells #[.slice none 0 0] 85 (0, 0)) := by rw [← hW0]; exact World.alloc_heap_new w _
  have hb0 : Below w.heap.size w W0 := by rw [← hW0]; exact (Below.refl _ w).alloc (Nat.le_refl _) _
  rw [hW0]
  obtain ⟨W1, hW1⟩ : ∃ W1, (W0.alloc (.deferred (some []))).alloc (.loop (Tryz.apRec fn (.func (.func g) #[] lb) w.heap.size W0.heap.size .ready none)) = W1 := ⟨_, rfl⟩
  have hold : ∀ k, k < W0.heap.size → W1.heap[k]? = W0.heap[k]? := fun k hk => by
    rw [← hW1]; exact (Below.heap_alloc _ _ k (by simp; omega)).trans (Below.heap_alloc _ _ k hk)
  have hb1 : Below w.heap.size w W1 := by rw [← hW1]; exact (hb0.alloc hb0.size _).alloc (by have := hb0.size; simp; omega) _
  have hs1 : W1.heap.size = W0.heap.size + 2 := by rw [← hW1]; simp
  have hM : Tryz.ApAt w fn (.func (.func g) #[] lb) w.heap.size (W0.heap.size + 1) W0.heap.size [] W1 :=
    ⟨⟨_, (hold w.heap.size (by omega)).trans hv0, ⟨rfl, .inl ⟨rfl, rfl⟩⟩, by simp⟩,
     by rw [← hW1]; have := World.alloc_heap_new (W0.alloc (.deferred (some []))) (.loop (Tryz.apRec fn (.func (.func g) #[] lb) w.heap.size W0.heap.size .ready none)); rwa [World.size_alloc] at this,
     by rw [← hW1]; exact (Below.heap_alloc _ _ _ (by simp)).trans (World.alloc_heap_new W0 _), hb1⟩
  refine ⟨W0.heap.size + 1, [{ target := .collected W0.heap.size, args := #[] }], W1, { target := .fn (.func g) lb, args := #[.func (.yield (W0.heap.size + 1)) #[] #[]] }, W1, g,
    #[.func (.yield (W0.heap.size + 1)) #[] #[]] ++ lb, W1, ?_, ?_, ?_, ?_, fun _ => h1, ?_⟩
  · rw [← hW1]; exact run_enterLoop_outer _ _ _ _ _
  · simp [resolve, go_sem]
  · intro f' hf'; simp [Target.leads] at hf'; subst hf'; exact hFg
  · simp [invoke, go_sem, eg]
  · refine (hseq (W0.heap.size + 1) (Tryz.ApAt w fn (.func (.func g) #[] lb) w.heap.size (W0.heap.size + 1) W0.heap.size) W1 hb1 (Tryz.ap_abides _ _ _ _ _ _ _ hb1.size)
      (fun pre x W hJ hl => Tryz.apYield F (n - 1 - 1) w fn hfn _ w.heap.size (W0.heap.size + 1) W0.heap.size (by omega) (by omega) (by omega) (Nat.le_refl _) (by omega) N hN hNb pre x W hJ hl) hM).mono ?_
    rintro e W2 ⟨⟨v0, rfl⟩, ss, hS, h2⟩
    obtain ⟨v, hv, hrow, hnil⟩ := h2.box
    have hend := run_endLoop (P := Tryz.prog) h2.L (by simp [Tryz.apRec])
    obtain ⟨W3, hW3⟩ : ∃ W3, W2.putObj (W0.heap.size + 1) (.loop { Tryz.apRec fn (.func (.func g) #[] lb) w.heap.size W0.heap.size .ready none with state := .exhausted }) = W3 := ⟨_, rfl⟩
    rw [hW3] at hend
    have hg3 : W2.grownBy W3 (some (W0.heap.size + 1)) := by rw [← hW3]; exact grownBy_putObj _ _ _
    have hv3 : W3.heap[w.heap.size]? = some (.cells #[v] 85 (0, 0)) := by rw [← hW3]; exact (World.putObj_heap_other (by omega)).trans hv
    have hK3 : W3.heap[W0.heap.size]? = some (.deferred (some [])) := by rw [← hW3]; exact (World.putObj_heap_other (by omega)).trans h2.K
    have hrow3 := hrow.kept hg3 (ownsRow_ne hrow h2.L (fun cur e => by cases e))
    have hb3 : Below w.heap.size w W3 := h2.below.grown hg3 h2.below.size (fun k e => by cases e; omega)
    obtain ⟨hc3, hf3⟩ := cell_of_box hv3
    clear hW3
    refine ⟨none, W3, hend, ?_⟩
    gi_wp2
    rw [← hs0]
    refine ⟨by simp, .inl ⟨_, _, rfl, run_takeDeferred hK3, ?_⟩⟩
    exact ⟨_, results_tmp rfl _ _ _, v, ss, rfl, hS, hrow3.kept (grownBy_putObj _ _ _) (ownsRow_ne hrow3 hK3 (fun cur e => by cases e)), hnil, hb3.grown (grownBy_putObj _ _ _) hb3.size (fun k e => by cases e; omega)⟩
set_option maxHeartbeats 1000000 in
theorem Tryz.collect_in (F : Fence) (n : Nat) (h8 : F.fn 96) (h11 : F.fn 109) (hro : F.round = none) (hn : 3 ≤ n) (g : Nat) (lb : Array Value) (hFg : F.fn g) (eg : ∀ args w, (callFunc g args).run Tryz.prog w = .ok (.enter g args) w)
    (S : List Int → Prop) (N : Nat) (hN : N ≤ maxLen) (hNb : N * 8 ≤ 140737488355328) (w : World) (hseq : SeqGives F (n - 1 - 1) Tryz.prog g lb encZ S N w) :
    CallsIn F n Tryz.prog 96 #[.func (.func g) #[] lb] w fun e w' => ∃ (v : Value) (ss : List Int), e = .returned v ∧ S ss ∧ w'.ownsRow w.heap.size 3 1 v ss.length (ss.map encZ) ∧ (v = .slice none 0 0 ↔ ss = []) ∧ Below w.heap.size w w' := by
  have h1 : 1 ≤ n := by omega
  refine callsIn_of_wp Tryz.func96 rfl h8 ?_ hro
  simp only [Tryz.ntmps96, List.size_toArray, List.length_cons, List.length_nil, Nat.reduceAdd, Nat.reduceSub, Array.replicate_succ, Array.replicate_zero, List.push_toArray, List.append_toArray, List.nil_append, List.cons_append]
  gi_wp2_with (gi_at_call 109; refine (Tryz.appendSeq_in F (n - 1) h11 hro (by omega) g lb hFg eg S N hN hNb _ hseq).mono ?_; rintro e w' ⟨v, ss, rfl, hS, hrow, hnil, hb⟩)
  go_ret
  exact ⟨v, ss, rfl, hS, hrow, hnil, hb⟩
def Tryz.SortsIn (F : Fence) (m : Nat) : Prop :=
  (∀ (blk off cap : Nat) (ss : List Int) (W : World), Holds encZ W blk off ss.toArray → blk < W.heap.size → ss.length < 4611686018427387904 →
    CallsIn F m Tryz.prog 97 #[.slice (some ⟨blk, off, none⟩) ss.length cap] W fun e w' => e = .returned (.tuple #[]) ∧ ∃ k os, w' = grow (putRow encZ (Sort.ahead W k) blk off (ss.mergeSort fun x y => decide (x ≤ y)).toArray) os) ∧
  (∀ (p : Option Addr) (cap : Nat) (W : World), CallsIn F m Tryz.prog 97 #[.slice p 0 cap] W fun e w' => e = .returned (.tuple #[]) ∧ w' = W)
set_option maxRecDepth 100000 in
set_option maxHeartbeats 2000000 in
theorem Tryz.sorted_in (F : Fence) (n : Nat) (h6 : F.fn 69) (h8 : F.fn 96) (h9 : F.fn 97) (h11 : F.fn 109) (hro : F.round = none) (hn : 4 ≤ n) (hsort : Tryz.SortsIn F (n - 1)) (g : Nat) (lb : Array Value) (hFg : F.fn g) (eg : ∀ args w, (callFunc g args).run Tryz.prog w = .ok (.enter g args) w)
    (S : List Int → Prop) (N : Nat) (hN : N ≤ maxLen) (hNb : N * 8 ≤ 140737488355328) (w : World) (hseq : SeqGives F (n - 1 - 1 - 1) Tryz.prog g lb encZ S N w) :
    CallsIn F n Tryz.prog 69 #[.func (.func g) #[] lb] w fun e w' => ∃ (v : Value) (ss : List Int), e = .returned v ∧ S ss ∧
      w'.ownsRow w.heap.size 3 1 v ss.length ((ss.mergeSort (fun x y => decide (x ≤ y))).map encZ) ∧ (v = .slice none 0 0 ↔ ss = []) ∧ Below w.heap.size w w' := by
  have h1 : 1 ≤ n := by omega
  refine callsIn_of_wp Tryz.func69 rfl h6 ?_ hro
  simp only [Tryz.ntmps69, List.size_toArray, List.length_cons, List.length_nil, Nat.reduceAdd, Nat.reduceSub, Array.replicate_succ, Array.replicate_zero, List.push_toArray, List.append_toArray, List.nil_append, List.cons_append]
  gi_wp2_with (gi_at_call 96; refine (Tryz.collect_in F (n - 1) h8 h11 hro (by omega) g lb hFg eg _ N hN hNb _ hseq.bounded).mono ?_; rintro e W ⟨v, ss, rfl, ⟨hS, hlen⟩, hrow, hnil, hb⟩)
  rcases hrow.2 with ⟨rfl, hz⟩ | ⟨gb, cap, cur, rfl, hbase, hgb, r1, r2, r3, r4⟩
  · 
    have hss : ss = [] := List.eq_nil_of_length_eq_zero hz
    subst hss
    gi_wp2_with (gi_at_call 97; refine (hsort.2 none 0 W).mono ?_; rintro e w' ⟨rfl, rfl⟩)
    go_ret
    exact ⟨.slice none 0 0, [], rfl, hS, by simpa using hrow, by simp, hb⟩
  · have hH : Holds encZ W gb 0 ss.toArray := holds_of_block_i hgb (by simpa using r4)
    have hgl : gb < W.heap.size := (Array.getElem?_eq_some_iff.1 hgb).1
    have hsz : ss.length < 4611686018427387904 := by omega
    have cS := hsort.1 gb 0 cap ss W hH hgl hsz
    gi_wp2_with (gi_at_call 97; refine cS.mono ?_; rintro e w' ⟨rfl, nn, os, rfl⟩)
    go_ret
    exact ⟨_, ss, rfl, hS, ownsRow_sorted_i (by simp) hbase hgb r1 r2 r3, hnil, hb.grown (grownBy_sorted_i _) hb.size (fun j hj => by cases hj; exact hbase)⟩
end Go.Proofs
namespace Go.Proofs.YtffenelcgjdbiaaGreatDoor
open Go Go.Sim Go.RowKit Go.Maps Go.Sort Go.WideElems
set_option maxRecDepth 100000
def anyR : Value → Option (DataW Unit × List MemPlace) := fun _ => some (.lit (.bool true), [])
theorem keyOf_int {n : Int} (h0 : 0 ≤ n) (h1 : n < 2 ^ 62) : keyOf Tryz.prog 3 (.int .i64 n) = some (.int .i64 n) := by
  simp [keyOf, mapKey, Tryz.underlying3, Lit.wf, IntKind.min, IntKind.max, IntKind.bits, IntKind.signed]
  omega
def idsL (l : List Cel) : List Int := (l.map fun x => (x.id : Int)).mergeSort fun x y => decide (x ≤ y)
theorem ids_entries {g : G} : ∀ {l : List Cel} {es : List MapEntry}, MR g (Celm l) es → es.map (·.key) = l.map fun x => Value.int .i64 (x.id : Int)
  | [], es, h => by rw [h.nil_left]; rfl
  | x :: l, es, h => by
    obtain ⟨e, es', rfl, h1, h2, h3⟩ := MR.cons_left (p := (.int .i64 x.id, x.v .unk)) (m := Celm l) h
    rw [List.map_cons, List.map_cons, ids_entries h3]
    congr 1
    generalize he : e.key = k at h1
    cases h1
    rfl
theorem own_cel {g : G} {w : World} {b cl : Nat} {es : Array MapEntry} {l : List Cel} (hb : w.heap[b]? = some (.map es cl)) (hm : MR g (Celm l) es.toList) (hs : MapKept.Stamped es cl)
    (hl : l.length ≤ 10000) (hid : ∀ x ∈ l, x.id ≤ 2147483647) :
    ∃ D : DataW Unit, w.ownsMap Tryz.prog 3 anyR b l.length D ∧ (intKeys D).Perm (l.map fun x => (x.id : Int)) ∧ Maps.size D = l.length := by
  have hk := ids_entries hm
  have hlen : es.size = l.length := by have := congrArg List.length hk; simpa using this
  have hrd : ∀ x ∈ es.toList, ∃ n : Int, x.key = .int .i64 n ∧ 0 ≤ n ∧ n < 2 ^ 62 := fun x hx => by
    have : x.key ∈ es.toList.map (·.key) := List.mem_map_of_mem hx
    rw [hk] at this
    obtain ⟨c, hc, e⟩ := List.mem_map.1 this
    have := hid c hc
    exact ⟨c.id, e.symm, by omega, by omega⟩
  have hrg : ∀ x ∈ es.toList, rg Tryz.prog 3 anyR x = ((match x.key with | .int _ n => Lit.int .i64 n | _ => Lit.bool false), DataW.lit (.bool true)) := fun x hx => by
    obtain ⟨n, e, h0, h1⟩ := hrd x hx
    exact WideElems.rg_of (by rw [WideElems.rd, e, keyOf_int h0 h1]; rfl)
  refine ⟨_, ⟨es, cl, hb, ⟨by rw [hlen]; show _ ≤ maxLen; unfold maxLen; omega, hs, fun x hx => ?_⟩, Nat.le_of_eq hlen, rfl⟩, ?_, ?_⟩
  · obtain ⟨n, e, h0, h1⟩ := hrd x hx
    exact ⟨_, by rw [WideElems.rd, e, keyOf_int h0 h1]; rfl⟩
  · show (((es.toList.map (rg Tryz.prog 3 anyR)).foldr DataW.insert []).map fun p => Go.intOf p.1).Perm _
    refine ((WideShapes.sorted_perm _).map _).trans ?_
    rw [List.map_map]
    have e : es.toList.map ((fun p => Go.intOf p.1) ∘ rg Tryz.prog 3 anyR) = (es.toList.map (·.key)).map fun k => match k with | .int _ n => n | _ => 0 := by
      rw [List.map_map]
      refine List.map_congr_left fun x hx => ?_
      obtain ⟨n, e, _, _⟩ := hrd x hx
      simp only [Function.comp_apply, hrg x hx, e]
      rfl
    rw [e, hk, List.map_map]
    exact List.Perm.refl _
  · show ((es.toList.map (rg Tryz.prog 3 anyR)).foldr DataW.insert []).length = _
    rw [(WideShapes.sorted_perm _).length_eq]; simpa using hlen
theorem sorts_wide (m : Nat) : Tryz.SortsIn Fence.wide m :=
  ⟨fun blk off cap ss W hH hblk hsz => callsIn_wide.2 (Any.slices_Sort_int Tryz.lays189 blk off cap ss W hH hblk hsz),
   fun p cap W => callsIn_wide.2 (Any.slices_Sort_int_none Tryz.lays189 p cap W)⟩
theorem Sorted_spec {l : List Cel} {bid mid : Nat} {st : St} (hb : st.cells bid = some [.map mid]) (hm : st.maps mid = some (Celm l)) (hl : l.length ≤ 10000) (hid : ∀ x ∈ l, x.id ≤ 2147483647) :
    RCall Tryz.prog F_slices_Sorted_int [.fn 98 [.ptr bid 0]] st fun r s => ∃ c, r = .ret (.lst 1 ((idsL l).map (V.int .i64)) c) ∧ s = st := by
  intro bn g w cargs hW hA
  obtain ⟨ba, cvs, e, fr, ho, hh, hfr, hlr, _⟩ := hW.cells _ _ hb
  obtain ⟨bm, es, cl, hom, hhm, hmr, hst⟩ := hW.maps _ _ hm
  obtain ⟨D, hown, hperm, hsize⟩ := own_cel hhm hmr hst hl hid
  have hcv : cvs = #[.map (some bm)] := by
    obtain ⟨h1, h2⟩ := hlr
    have hs : cvs.size = 1 := by simpa using h1.symm
    have h3 := h2 0 (.map mid) cvs[0] rfl (by simp)
    generalize hc : cvs[0] = c at h3
    cases h3 with
    | map hg =>
      rw [hom] at hg; cases hg
      apply Array.ext (by simp [hs])
      intro i hi1 hi2
      have : i = 0 := by omega
      subst this; simpa using hc
  have hca : cargs = #[.func (.func 98) #[] #[.pointer (some ⟨ba, 0, none⟩)]] := by
    obtain ⟨h1, h2⟩ := hA
    have hs : cargs.size = 1 := by simpa using h1.symm
    have h3 := h2 0 (.fn 98 [.ptr bid 0]) cargs[0] rfl (by simp)
    generalize hc : cargs[0] = c at h3
    cases h3 with
    | fn hl3 hr3 =>
      rename_i lb
      have hs4 : lb.size = 1 := by simpa using hl3.symm
      have h5 := hr3 0 (.ptr bid 0) lb[0] rfl (by simp)
      generalize hd : lb[0] = d at h5
      cases h5 with
      | ptr hg =>
        rw [ho] at hg; cases hg
        have e2 : lb = #[.pointer (some ⟨ba, 0, none⟩)] := Array.ext (by simp [hs4]) fun i hi1 hi2 => by
          have : i = 0 := by omega
          subst this; simpa using hd
        subst e2
        exact Array.ext (by simp [hs]) fun i hi1 hi2 => by
          have : i = 0 := by omega
          subst this; simpa using hc
  subst hca
  have hmx : Maps.size D ≤ maxLen := by rw [hsize]; unfold maxLen; omega
  have hcell : w.cell? ⟨ba, 0, none⟩ = some (.map (some bm)) := by simp [World.cell?, hh, hcv]
  have hseq := Tryz.keys_gives Fence.wide 2 trivial rfl (by omega) ba bm l.length D w (Array.getElem?_eq_some_iff.1 hh).1 hcell hown
  have hc := Tryz.sorted_in Fence.wide 5 trivial trivial trivial trivial rfl (by omega) (sorts_wide _) 98 #[.pointer (some ⟨ba, 0, none⟩)] trivial (enters_of Tryz.func98 (by kernel_rfl) rfl) _ _ hmx (by rw [hsize]; omega) w hseq
  refine (callsIn_wide.1 hc).mono ?_
  rintro e' w' ⟨v, ss, rfl, hS, hrow, _, hbelow⟩
  have hids : ss.mergeSort (fun x y => decide (x ≤ y)) = idsL l := mergeSort_of_perm_i (hS.trans hperm)
  rw [hids] at hrow
  obtain ⟨_, hrow | ⟨gb, cap, cur, rfl, hbase, hgb, r1, r2, r3, r4⟩⟩ := hrow
  · obtain ⟨rfl, hz⟩ := hrow
    have hss : ss = [] := List.eq_nil_of_length_eq_zero hz
    have he : idsL l = [] := by rw [← hids, hss]; simp
    obtain ⟨k1, k2⟩ := hW.grown hbelow w.heap.size (Nat.le_refl _) [] (fun j c hj => by cases hj)
    refine ⟨_, st, .ret (.lst 1 [] .nil), ?_, k1, k2, .nil, by rw [he]; rfl, rfl⟩
    exact .lst rfl (fun _ h => by cases h) (fun _ h => by cases h) ⟨rfl, rfl, rfl⟩ (cvs := []) (fun j c hj => by cases hj) rfl (fun i v c hi => by cases hi)
  · have hlen : (idsL l).length = ss.length := by rw [← hids]; simp
    rw [Nat.mul_one] at r4
    have hcv2 : ∀ (j : Nat) c, ((idsL l).map encZ)[j]? = some c → w'.cell? ⟨gb, j, none⟩ = some c := fun j c hj => by
      rw [← r4, List.getElem?_take] at hj
      split at hj
      · simpa [World.cell?, hgb] using hj
      · cases hj
    obtain ⟨k1, k2⟩ := hW.grown hbelow gb hbase ((idsL l).map encZ) hcv2
    have hfl : flat ((idsL l).map (V.int .i64)) = (idsL l).map (V.int .i64) := flat_ones1 (fun v hv => by obtain ⟨n, _, rfl⟩ := List.mem_map.1 hv; rfl)
    refine ⟨_, st, .ret (.lst 1 ((idsL l).map (V.int .i64)) .unk), ?_, k1, k2, .unk, rfl, rfl⟩
    refine .lst (by simp [hlen]) (fun v hv => by obtain ⟨n, _, rfl⟩ := List.mem_map.1 hv; rfl) (fun v hv => by rw [hfl] at hv; obtain ⟨n, _, rfl⟩ := List.mem_map.1 hv; rfl) ⟨.inr (.inl ⟨_, _, rfl⟩), r1⟩ (cvs := (idsL l).map encZ) (ImmB.withImm g gb _) (by rw [hfl]; simp) fun i v c hv hc => ?_
    rw [hfl, List.getElem?_map] at hv
    rw [List.getElem?_map] at hc
    cases hx : (idsL l)[i]? with
    | none => rw [hx] at hv; cases hv
    | some n => rw [hx] at hv hc; cases hv; cases hc; exact .int _ _
end Go.Proofs.YtffenelcgjdbiaaGreatDoor
namespace Go.Proofs.YtffenelcgjdbiaaGreatDoor
open Go Go.Sim
set_option maxRecDepth 100000
theorem IDs_spec {p : Nat} {x : Sta} (hl : x.l.length ≤ 10000) (hid : ∀ c ∈ x.l, c.id ≤ 2147483647) :
    Does Tryz.prog F_stsh_Stash_IDs [.ptr p 0] (StaA p x) fun r => ex fun c => pand (r = .ret (.lst 1 ((idsL x.l).map (V.int .i64)) c)) (StaA p x) := by
  intro st I h
  have nn := (Now.init h).emp
  obtain ⟨m, n0⟩ := stOpen nn
  refine w_stsh_Stash_IDs ?_
  refine ⟨_, ldv1 n0.cells rfl, ?_⟩
  refine w_maps_Keys_map_int_api_Cell_int_api_Cell ?_
  intro s2 h2
  refine ⟨_, _, rfl, ?_⟩
  have c2 : s2.cells st.next = some [.map m] := by rw [h2]; exact cells_new _ _
  have l2 : st.le s2 := by rw [h2]; exact (St.le.refl _).new _
  have n0' := n0.perm (B := mapA m (Celm x.l) * (cellA p (stC x m) * emp)) (by ac_rfl)
  refine (Sorted_spec c2 (n0'.le l2).maps hl hid).mono ?_
  rintro _ s3 ⟨c, rfl, rfl⟩
  exact ⟨_, _, rfl, (Now.toEx c (Now.toPand rfl (nn.le l2))).unemp⟩
def meetI (d a b : Nat) : Int := (d : Int) - bl (a ^^^ b)
def evStep (d leaf level z : Nat) (s : List Cel × List Cel) (id : Int) : List Cel × List Cel :=
  if s.1.length < z ∧ (level : Int) ≤ meetI d (celOr s.2 id).leaf leaf then (s.1 ++ [celOr s.2 id], delC s.2 id) else s
def evictL (d leaf level z : Nat) (l : List Cel) : List Cel × List Cel := (idsL l).foldl (evStep d leaf level z) ([], l)
theorem delC_sub {l : List Cel} {id : Int} {c : Cel} (h : c ∈ delC l id) : c ∈ l := by
  induction l with
  | nil => cases h
  | cons x r ih =>
    unfold delC at h
    split at h
    · exact List.mem_cons_of_mem _ h
    · rcases List.mem_cons.1 h with h | h
      · exact h ▸ List.mem_cons_self ..
      · exact List.mem_cons_of_mem _ (ih h)
theorem celOr_leaf {l : List Cel} {n : Nat} (h : ∀ c ∈ l, c.leaf < n) (hn : 0 < n) (id : Int) : (celOr l id).leaf < n := by
  unfold celOr
  cases e : look l id with
  | none => exact hn
  | some c => exact h c (List.mem_of_find?_eq_some e)
theorem Evict_spec {p d leaf level z : Nat} {x : Sta} (hd : d ≤ 16) (hf : leaf < 2 ^ d) (hv : level ≤ d) (hz : z ≤ 2 ^ 32) (hl : x.l.length ≤ 10000) (hid : ∀ c ∈ x.l, c.id ≤ 2147483647) (hlf : ∀ c ∈ x.l, c.leaf < 2 ^ d) :
    Does Tryz.prog F_stsh_Stash_Evict [.ptr p 0, .int .i64 (2 ^ d : Nat), .int .i64 leaf, .int .i64 level, .int .i64 z] (StaA p x)
      fun r => ex fun c => pand (r = .ret (.lst 3 (Cels (evictL d leaf level z x.l).1) c)) (StaA p ⟨x.most, x.size, (evictL d leaf level z x.l).2⟩) := by
  intro st I h
  have nn := (Now.init h).emp
  refine w_stsh_Stash_Evict ?_
  refine (At_spec hd hf level (by omega) st).mono ?_
  rintro _ s7 ⟨rfl, l7⟩
  rw [if_pos hv, decide_eq_true hv]
  refine ⟨_, _, rfl, fun h => (by cases h), fun _ => ?_⟩
  refine (IDs_spec hl hid).retEx (nn.le l7) ?_
  intro c12 s11 n11
  refine ⟨_, _, rfl, ?_⟩
  have hlen : ((idsL x.l).map (V.int .i64)).length = (idsL x.l).length := List.length_map _
  rw [hlen]
  have hil : (idsL x.l).length ≤ 10000 := by unfold idsL; rw [List.length_mergeSort, List.length_map]; exact hl
  refine ⟨fun n out c i s => ∃ (k : Nat) (q : List Cel × List Cel), i = k ∧ k ≤ (idsL x.l).length ∧ n = (idsL x.l).length - k ∧ q = ((idsL x.l).take k).foldl (evStep d leaf level z) ([], x.l) ∧ out = Cels q.1 ∧ (∀ e ∈ q.2, e ∈ x.l) ∧
      Now st I (StaA p ⟨x.most, x.size, q.2⟩ * (capA c * emp)) s,
    ⟨(idsL x.l).length, 0, ([], x.l), rfl, by omega, rfl, rfl, rfl, fun _ h => h, ((n11.own (Own.nil (.refl s11))).perm (by ac_rfl))⟩, ?_⟩
  rintro _ _ c13 _ s17 ⟨k, q, rfl, hk, rfl, hq, rfl, hsub, n17⟩
  refine br (fun hlt => ?_) fun hge => ?_
  · have hk' : k < (idsL x.l).length := by omega
    intro K46 h46
    have hstep : ((idsL x.l).take (k + 1)).foldl (evStep d leaf level z) ([], x.l) = evStep d leaf level z q (idsL x.l)[k] := by
      rw [List.take_succ_eq_append_getElem hk', List.foldl_append, ← hq]; rfl
    refine ⟨k, rfl, _, by rw [List.getElem?_map, List.getElem?_eq_getElem hk']; rfl, ?_⟩
    generalize (idsL x.l)[k] = id at hstep ⊢
    intro K29 h29
    have hleaf : (celOr q.2 id).leaf < 2 ^ d := celOr_leaf (fun e he => hlf e (hsub e he)) Nat.one_le_two_pow id
    have hno : ∀ s', evStep d leaf level z q id = q → Now st I (StaA p ⟨x.most, x.size, q.2⟩ * (capA c13 * emp)) s' → K29 false s' := fun s' he n' =>
      h29 _ _ ⟨fun h => (by cases h), fun _ => h46 _ _ _ ⟨(idsL x.l).length - (k + 1), by omega, k + 1, q, by rw [w64 (by omega)]; omega, by omega, rfl, by rw [hstep, he], rfl, hsub, n'⟩⟩
    rw [Cels_length]
    refine br (fun hz1 => ?_) fun hz1 => hno _ (by rw [evStep, if_neg (by omega)]) n17
    obtain ⟨m, n18⟩ := stOpen n17
    have n18' := n18.perm (B := mapA m (Celm q.2) * (cellA p (stC ⟨x.most, x.size, q.2⟩ m) * (capA c13 * emp))) (by ac_rfl)
    obtain ⟨cc, hk2⟩ := mlook_cel n18'.maps id
    refine ⟨_, ldv1 n18.cells rfl, _, _, _, _, _, hk2, ?_⟩
    refine (Meet_spec hd hleaf hf s17).mono ?_
    rintro _ s26 ⟨rfl, l26⟩
    refine ⟨_, rfl, ?_⟩
    have n26 := n17.le l26
    by_cases hm : (level : Int) ≤ meetI d (celOr q.2 id).leaf leaf
    · rw [show decide ((d : Int) - bl ((celOr q.2 id).leaf ^^^ leaf) ≥ (level : Int)) = true from decide_eq_true hm]
      have he : evStep d leaf level z q id = (q.1 ++ [celOr q.2 id], delC q.2 id) := by rw [evStep, if_pos ⟨by omega, hm⟩]
      refine h29 _ _ ⟨fun _ => ?_, fun h => (by cases h)⟩
      refine (StTake_spec id).retEx n26 ?_
      intro c35 s32 n32
      refine ⟨_, _, _, _, _, rfl, ?_⟩
      intro s37 h37
      have c37 : s37.cells s32.next = some [.int .i64 0, .int .i64 0, .lst 1 [] .nil] := by rw [h37]; exact cells_new _ _
      refine ⟨rfl, rfl, _, c37, by decide, ?_⟩
      rw [repl_three]
      intro s39 h39
      have c39 : s39.cells s32.next = some ((celOr q.2 id).cs c35) := by rw [h39]; exact cells_set c37
      have l39 : s32.le s39 := by rw [h39]; refine St.le.set ?_ (Nat.le_refl _) _; rw [h37]; exact (St.le.refl _).new _
      have n39 := (n32.le l39).perm (B := capA c13 * (StaA p ⟨x.most, x.size, delC q.2 id⟩ * emp)) (by ac_rfl)
      refine ⟨_, _, _, _, ldvg c39 rfl, ⟨n39.can, by rw [Cels_length]; omega⟩, ?_⟩
      intro c43 s44 ha
      have n44 := (n39.app ha).perm (B := StaA p ⟨x.most, x.size, delC q.2 id⟩ * (capA c43 * emp)) (by ac_rfl)
      refine h46 _ _ _ ⟨(idsL x.l).length - (k + 1), by omega, k + 1, (q.1 ++ [celOr q.2 id], delC q.2 id), by rw [w64 (by omega)]; omega, by omega, rfl, by rw [hstep, he], by rw [Cels_append]; rfl, fun e h => hsub e (delC_sub h), n44⟩
    · rw [show decide ((d : Int) - bl ((celOr q.2 id).leaf ^^^ leaf) ≥ (level : Int)) = false from decide_eq_false hm]
      exact hno _ (by rw [evStep, if_neg (fun h => hm h.2)]) n26
  · rw [List.take_of_length_le (by omega)] at hq
    have e : q = evictL d leaf level z x.l := hq
    subst e
    exact (Now.toEx c13 (Now.toPand rfl ((n17.perm (B := capA c13 * (StaA p ⟨x.most, x.size, (evictL d leaf level z x.l).2⟩ * emp)) (by ac_rfl)).drop))).unemp
end Go.Proofs.YtffenelcgjdbiaaGreatDoor
namespace Go.Proofs.YtffenelcgjdbiaaGreatDoor
open Go Go.Sim
set_option maxRecDepth 100000
def Uid (l : List Cel) : Prop := (l.map fun c => (c.id : Int)).Nodup
def srtL (l : List Cel) : List Cel := (idsL l).map (celOr l)
def stL (most size : Nat) (l : List Cel) : List UInt8 := putL l.length 4 ++ cellsL l ++ List.replicate ((most - l.length) * (8 + size)) 0
theorem look_mem {l : List Cel} (h : Uid l) {c : Cel} (hc : c ∈ l) : look l c.id = some c := by
  induction l with
  | nil => cases hc
  | cons x r ih =>
    unfold Uid at h
    rw [List.map_cons, List.nodup_cons] at h
    rw [look, List.find?_cons]
    rcases List.mem_cons.1 hc with rfl | hc
    · simp
    · have hne : (x.id : Int) ≠ c.id := fun e => h.1 (List.mem_map.2 ⟨c, hc, e.symm⟩)
      rw [decide_eq_false hne]
      exact ih h.2 hc
theorem look_some {l : List Cel} {id : Int} {c : Cel} (h : look l id = some c) : c ∈ l ∧ (c.id : Int) = id := by
  refine ⟨List.mem_of_find?_eq_some h, ?_⟩
  have := List.find?_some h
  simpa using this
theorem look_none {l : List Cel} {id : Int} (h : look l id = none) : ∀ c ∈ l, (c.id : Int) ≠ id := by
  intro c hc
  have := List.find?_eq_none.1 h c hc
  simpa using this
theorem celOr_mem {l : List Cel} (h : Uid l) {c : Cel} (hc : c ∈ l) : celOr l c.id = c := by unfold celOr; rw [look_mem h hc]; rfl
theorem idsL_perm (l : List Cel) : (idsL l).Perm (l.map fun c => (c.id : Int)) := List.mergeSort_perm _ _
theorem idsL_mem {l : List Cel} {id : Int} : id ∈ idsL l ↔ ∃ c ∈ l, (c.id : Int) = id := by
  rw [(idsL_perm l).mem_iff, List.mem_map]
theorem idsL_nodup {l : List Cel} (h : Uid l) : (idsL l).Nodup := (idsL_perm l).nodup_iff.2 h
theorem idsL_sorted (l : List Cel) : (idsL l).Pairwise fun x y => x ≤ y := by
  have := List.pairwise_mergeSort (le := fun x y : Int => decide (x ≤ y)) (fun a b c h1 h2 => by simp only [decide_eq_true_eq] at *; omega) (fun a b => by simp only [Bool.or_eq_true, decide_eq_true_eq]; omega) (l.map fun c => (c.id : Int))
  exact this.imp fun h => by simpa using h
theorem srtL_perm {l : List Cel} (h : Uid l) : (srtL l).Perm l := by
  refine ((idsL_perm l).map (celOr l)).trans ?_
  rw [List.map_map]
  have : l.map (celOr l ∘ fun c => (c.id : Int)) = l := by
    conv => rhs; rw [← List.map_id l]
    exact List.map_congr_left fun c hc => celOr_mem h hc
  rw [this]
theorem srtL_ids {l : List Cel} (h : Uid l) : (srtL l).map (fun c => (c.id : Int)) = idsL l := by
  rw [srtL, List.map_map]
  conv => rhs; rw [← List.map_id (idsL l)]
  refine List.map_congr_left fun id hid => ?_
  obtain ⟨c, hc, rfl⟩ := idsL_mem.1 hid
  show ((celOr l c.id).id : Int) = c.id
  rw [celOr_mem h hc]
theorem srtL_sorted {l : List Cel} (h : Uid l) : (srtL l).Pairwise fun a b => a.id < b.id := by
  have h1 : (idsL l).Pairwise fun x y => x < y := ((idsL_sorted l).and (idsL_nodup h)).imp fun h => by omega
  rw [← srtL_ids h, List.pairwise_map] at h1
  exact h1.imp fun h => by omega
@[simp] theorem srtL_length (l : List Cel) : (srtL l).length = l.length := by rw [srtL, List.length_map, (idsL_perm l).length_eq, List.length_map]
theorem putC_new {l : List Cel} {c : Cel} (h : ∀ x ∈ l, x.id ≠ c.id) : putC l c = l ++ [c] := by
  induction l with
  | nil => rfl
  | cons x r ih =>
    rw [putC, if_neg fun e => h x (List.mem_cons_self ..) e.symm, ih fun y hy => h y (List.mem_cons_of_mem _ hy)]; rfl
theorem long_spec {p : Nat} {x : Sta} {m : Nat} (hm : x.most ≤ 10000) (hs : x.size ≤ 60000) {st : St} (hc : st.cells p = some (stC x m)) :
    RCall Tryz.prog F_stsh_Stash_long [.ptr p 0] st fun r s => r = .ret (.int .i64 (4 + x.most * (8 + x.size) : Nat)) ∧ s = st := by
  refine w_stsh_Stash_long ⟨_, ldv1 hc rfl, _, ldv1 hc rfl, ?_⟩
  refine (Long_spec x.most x.size hm hs st).mono ?_
  rintro _ s ⟨rfl, rfl⟩
  have h := mul_le16 hm hs
  generalize x.most * (8 + x.size) = q at h
  refine ⟨_, rfl, ?_, rfl⟩
  rw [w64 (by omega)]
  congr 2
theorem StState_spec {p : Nat} {x : Sta} (ok : StaOk x) (hu : Uid x.l) : Does Tryz.prog F_stsh_Stash_State [.ptr p 0] (StaA p x) fun r => ex fun c => pand (r = .ret (.lst 1 (By (stL x.most x.size (srtL x.l))) c)) (StaA p x) := by
  intro st I h
  have nn := (Now.init h).emp
  obtain ⟨m0, n0⟩ := stOpen nn
  have n0' := n0.perm (B := mapA m0 (Celm x.l) * (cellA p (stC x m0) * emp)) (by ac_rfl)
  have hm := ok.most
  have hz := ok.size
  have hl := ok.long
  have hL := mul_le16 hm hz
  have hid : ∀ c ∈ x.l, c.id ≤ 2147483647 := fun c hc => (ok.ok c hc).id
  refine w_stsh_Stash_State ⟨_, ldv1 n0.cells rfl, _, n0'.maps, ?_⟩
  rw [Celm_length, wu64 (n := (x.l.length : Int)) (by omega)]
  refine (Put_spec x.l.length 4 (by decide) st).mono ?_
  rintro _ s5 ⟨c6, rfl, o5⟩
  refine ⟨_, _, rfl, ?_⟩
  refine (IDs_spec (by omega) hid).retEx (R := capA c6 * emp) ((nn.own o5).perm (by ac_rfl)) ?_
  intro c9 s8 n8
  refine ⟨_, _, rfl, ?_⟩
  have hlen : ((idsL x.l).map (V.int .i64)).length = x.l.length := by rw [List.length_map, (idsL_perm x.l).length_eq, List.length_map]
  have hil : (idsL x.l).length = x.l.length := by rw [(idsL_perm x.l).length_eq, List.length_map]
  rw [hlen]
  have hok : ∀ c ∈ srtL x.l, CelOk c x.size := fun c hc => ok.ok c ((srtL_perm hu).mem_iff.1 hc)
  have hcl : ∀ k, k ≤ x.l.length → (cellsL ((srtL x.l).take k)).length = k * (8 + x.size) := fun k hk => by
    rw [cellsL_length fun c hc => hok c (List.mem_of_mem_take hc), List.length_take, srtL_length, Nat.min_eq_left hk]
  have hkz : ∀ k, k ≤ x.most → k * (8 + x.size) ≤ x.most * (8 + x.size) := fun k h => Nat.mul_le_mul_right _ h
  refine ⟨fun n out c i s => ∃ k : Nat, i = k ∧ k ≤ x.l.length ∧ n = x.l.length - k ∧ out = By (putL x.l.length 4 ++ cellsL ((srtL x.l).take k)) ∧ Now st I (StaA p x * (capA c * emp)) s,
    ⟨x.l.length, 0, rfl, by omega, rfl, by rw [List.take_zero, cellsL, List.flatMap_nil, List.append_nil], n8⟩, ?_⟩
  rintro _ _ c10 _ s14 ⟨k, rfl, hk, rfl, rfl, n14⟩
  refine br (fun hlt => ?_) fun hge => ?_
  · have hk' : k < x.l.length := by omega
    have hk1 : k < (idsL x.l).length := by omega
    have hks : k < (srtL x.l).length := by rw [srtL_length]; exact hk'
    refine ⟨k, rfl, _, by rw [List.getElem?_map, List.getElem?_eq_getElem hk1]; rfl, ?_⟩
    obtain ⟨m, n15⟩ := stOpen n14
    have n15' := n15.perm (B := mapA m (Celm x.l) * (cellA p (stC x m) * (capA c10 * emp))) (by ac_rfl)
    obtain ⟨cc, hk2⟩ := mlook_cel n15'.maps (idsL x.l)[k]
    refine ⟨_, ldv1 n15.cells rfl, _, _, _, _, _, hk2, ?_⟩
    have ec : celOr x.l (idsL x.l)[k] = (srtL x.l)[k] := by simp only [srtL, List.getElem_map]
    rw [ec]
    have ho := hok _ (List.getElem_mem hks)
    refine (Bytes_spec (srtL x.l)[k] cc ho hz s14).mono ?_
    rintro _ s23 ⟨c24, rfl, o23⟩
    have n23 := (n14.le o23.le).perm (B := capA c10 * (StaA p x * emp)) (by ac_rfl)
    have hb := hkz (k + 1) (by omega)
    have hb2 : (bytesL (srtL x.l)[k]).length = 8 + x.size := by rw [bytesL_length, ho.long]
    have hb3 : (k + 1) * (8 + x.size) = k * (8 + x.size) + (8 + x.size) := by rw [Nat.add_mul, Nat.one_mul]
    refine ⟨_, _, rfl, ⟨n23.can, by rw [By_length, By_length, List.length_append, hcl k hk, hb2, putL_len]; omega⟩, ?_⟩
    intro c25 s26 ha
    have n26 := (n23.app ha).perm (B := StaA p x * (capA c25 * emp)) (by ac_rfl)
    refine ⟨x.l.length - (k + 1), by omega, k + 1, by rw [w64 (by omega)]; omega, by omega, rfl, ?_, n26⟩
    rw [← By_append, cellsL_step hks, List.append_assoc]
  · have hkk : k = x.l.length := by omega
    subst hkk
    obtain ⟨m, n15⟩ := stOpen n14
    refine (long_spec hm hz n15.cells).mono ?_
    rintro _ s29 ⟨rfl, rfl⟩
    have e1 : (srtL x.l).take x.l.length = srtL x.l := List.take_of_length_le (by rw [srtL_length]; exact Nat.le_refl _)
    have hc2 := hcl x.l.length (Nat.le_refl _)
    rw [e1] at hc2 ⊢
    have hb := hkz x.l.length hl
    have e2 : (x.most - x.l.length) * (8 + x.size) = x.most * (8 + x.size) - x.l.length * (8 + x.size) := Nat.sub_mul ..
    have hst : stL x.most x.size (srtL x.l) = putL x.l.length 4 ++ cellsL (srtL x.l) ++ List.replicate ((x.most - x.l.length) * (8 + x.size)) 0 := by rw [stL, srtL_length]
    rw [hst, e2]
    generalize x.most * (8 + x.size) = L at hL hb e2 ⊢
    have n16 := n14.perm (B := capA c10 * (StaA p x * emp)) (by ac_rfl)
    have hlen2 : (By (putL x.l.length 4 ++ cellsL (srtL x.l))).length = 4 + x.l.length * (8 + x.size) := by rw [By_length, List.length_append, hc2, putL_len]
    rw [hlen2]
    generalize x.l.length * (8 + x.size) = q at *
    refine ⟨_, rfl, L - q, by rw [w64 (by omega)]; omega, ⟨n16.can, by omega⟩, ?_⟩
    intro c32 s33 ha
    rw [By_rep] at ha ⊢
    rw [← By_append]
    exact (Now.toEx c32 (Now.toPand rfl (n16.app ha).drop)).unemp
theorem stL_length {l : List Cel} {most size : Nat} (hl : l.length ≤ most) (ok : ∀ c ∈ l, CelOk c size) : (stL most size l).length = 4 + most * (8 + size) := by
  rw [stL, List.length_append, List.length_append, putL_len, cellsL_length ok, List.length_replicate, Nat.sub_mul]
  have := Nat.mul_le_mul_right (8 + size) hl
  omega
theorem cellsL_cut {l : List Cel} {k size : Nat} (h : k < l.length) (ok : ∀ c ∈ l, CelOk c size) (a b : List UInt8) (ha : a.length = 4) :
    ((a ++ cellsL l ++ b).take (4 + k * (8 + size) + 8 + size)).drop (4 + k * (8 + size)) = bytesL l[k] := by
  have e : cellsL l = cellsL (l.take k) ++ (bytesL l[k] ++ cellsL (l.drop (k + 1))) := by
    conv => lhs; rw [← List.take_append_drop k l, List.drop_eq_getElem_cons h]
    rw [cellsL, List.flatMap_append, List.flatMap_cons]; rfl
  have h1 : (cellsL (l.take k)).length = k * (8 + size) := by
    rw [cellsL_length fun c hc => ok c (List.mem_of_mem_take hc), List.length_take, Nat.min_eq_left (by omega)]
  have h2 : (bytesL l[k]).length = 8 + size := by rw [bytesL_length, (ok _ (List.getElem_mem h)).long]
  have e2 : a ++ cellsL l ++ b = (a ++ cellsL (l.take k)) ++ (bytesL l[k] ++ (cellsL (l.drop (k + 1)) ++ b)) := by rw [e]; simp [List.append_assoc]
  have h3 : (a ++ cellsL (l.take k)).length = 4 + k * (8 + size) := by rw [List.length_append, ha, h1]
  rw [e2, List.take_append, h3, List.take_of_length_le (by omega), List.drop_left' h3, List.take_left' (by omega)]
theorem parse_spec {p : Nat} {x : Sta} {l : List Cel} (c : Cap) (ok : StaOk ⟨x.most, x.size, l⟩) (hs : l.Pairwise fun a b => a.id < b.id) :
    Does Tryz.prog F_stsh_Stash_parse [.ptr p 0, .lst 1 (By (stL x.most x.size l)) c] (StaA p x) fun r => ex fun m => pand (r = .ret (.tup [.map m, .bool true])) (mapA m (Celm l) * StaA p x) := by
  intro st I h
  have nn := (Now.init h).emp
  obtain ⟨m0, n0⟩ := stOpen nn
  have hm : x.most ≤ 10000 := ok.most
  have hz : x.size ≤ 60000 := ok.size
  have hl : l.length ≤ x.most := ok.long
  have hok : ∀ c ∈ l, CelOk c x.size := ok.ok
  have hL := mul_le16 hm hz
  have hlen := stL_length hl hok
  have hkz : ∀ k, k ≤ x.most → k * (8 + x.size) ≤ x.most * (8 + x.size) := fun k h => Nat.mul_le_mul_right _ h
  have hk1 : ∀ k, (k + 1) * (8 + x.size) = k * (8 + x.size) + (8 + x.size) := fun k => by rw [Nat.add_mul, Nat.one_mul]
  have hcl := cellsL_length hok
  refine w_stsh_Stash_parse ?_
  refine (long_spec hm hz n0.cells).mono ?_
  rintro _ s4 ⟨rfl, rfl⟩
  refine ⟨_, rfl, ?_⟩
  rw [By_length, hlen, show ((((4 + x.most * (8 + x.size) : Nat) : Int)) != ((4 + x.most * (8 + x.size) : Nat) : Int)) = false by simp]
  refine ⟨fun h => (by cases h), fun _ => ⟨4, rfl, by omega, ?_⟩⟩
  have e1 : (By (stL x.most x.size l)).take 4 = By (putL l.length 4) := by rw [By_take, stL, List.append_assoc, List.take_left' (by simp)]
  rw [e1]
  refine (Get_spec (putL l.length 4) _ (by simp) s4).mono ?_
  rintro _ s8 ⟨rfl, l8⟩
  refine ⟨_, rfl, ?_⟩
  rw [get_putL _ _ (by omega), w64 (n := (l.length : Int)) (by omega)]
  intro s10 h10
  have n10 := (nn.le l8).newM
  rw [← h10] at n10
  obtain ⟨m1, n11⟩ := stOpen (n10.perm (B := StaA p x * (mapA s8.next [] * emp)) (by ac_rfl))
  refine ⟨_, ldv1 n11.cells rfl, ?_⟩
  intro K21 h21
  rw [show decide ((l.length : Int) > (x.most : Int)) = false by simp; omega]
  refine ⟨fun _ => ⟨_, ldv1 n11.cells rfl, ?_⟩, fun h => (by cases h)⟩
  refine (Long_spec l.length x.size (by omega) hz s10).mono ?_
  rintro _ s14 ⟨rfl, rfl⟩
  have hq := hkz l.length hl
  refine ⟨_, rfl, 4 + l.length * (8 + x.size), by rw [w64 (by omega)]; omega, by omega, ?_⟩
  have e2 : (By (stL x.most x.size l)).drop (4 + l.length * (8 + x.size)) = By (List.replicate ((x.most - l.length) * (8 + x.size)) 0) := by
    rw [By_drop, stL, List.drop_left' (by rw [List.length_append, hcl, putL_len])]
  rw [e2]
  have hsub : (x.most - l.length) * (8 + x.size) ≤ x.most * (8 + x.size) := hkz _ (by omega)
  refine (Zero_spec (List.replicate ((x.most - l.length) * (8 + x.size)) 0) _ (by rw [List.length_replicate]; omega) s14).mono ?_
  rintro _ s18 ⟨rfl, l18⟩
  refine ⟨_, rfl, ?_⟩
  rw [show (List.replicate ((x.most - l.length) * (8 + x.size)) (0 : UInt8)).all (· == 0) = true by simp]
  refine h21 _ _ ⟨fun h => (by cases h), fun _ => ?_⟩
  refine ⟨fun n last i s => ∃ k : Nat, i = k ∧ k ≤ l.length ∧ n = l.length - k ∧ (∀ c ∈ l.drop k, last < (c.id : Int)) ∧ Now s4 I (mapA s8.next (Celm (l.take k)) * (StaA p x * emp)) s,
    ⟨l.length, 0, rfl, by omega, rfl, fun c hc => ?_, (n10.le l18).perm (by ac_rfl)⟩, ?_⟩
  · have := (hok c hc).id1; omega
  rintro _ last _ s27 ⟨k, rfl, hk, rfl, hlast, n27⟩
  refine br (fun hlt => ?_) fun hge => ?_
  · have hk' : k < l.length := by omega
    have ho := hok _ (List.getElem_mem hk')
    obtain ⟨m2, n28⟩ := stOpen (n27.perm (B := StaA p x * (mapA s8.next (Celm (l.take k)) * emp)) (by ac_rfl))
    refine ⟨_, ldv1 n28.cells rfl, ?_⟩
    refine (Long_spec k x.size (by omega) hz s27).mono ?_
    rintro _ s30 ⟨rfl, rfl⟩
    have hb := hkz (k + 1) (by omega)
    have hb1 := hk1 k
    refine ⟨_, rfl, _, ldv1 n28.cells rfl, ?_⟩
    refine ⟨4 + k * (8 + x.size), 4 + k * (8 + x.size) + 8 + x.size, ?_, ?_, by omega, by omega, ?_⟩
    · rw [w64 (by omega)]; omega
    · rw [w64 (n := 4 + ((k * (8 + x.size) : Nat) : Int)) (by omega), w64 (n := 4 + ((k * (8 + x.size) : Nat) : Int) + 8) (by omega), w64 (by omega)]; omega
    have e3 : ((By (stL x.most x.size l)).take (4 + k * (8 + x.size) + 8 + x.size)).drop (4 + k * (8 + x.size)) = By (bytesL l[k]) := by
      rw [By_take, By_drop, stL, cellsL_cut hk' hok _ _ (by simp)]
    rw [e3]
    refine (Of_spec l[k] _ ho hz s30).mono ?_
    rintro _ s36 ⟨c39, rfl, l36⟩
    refine ⟨_, _, _, _, rfl, ?_⟩
    intro s40 h40
    have c40 : s40.cells s36.next = some [.int .i64 0, .int .i64 0, .lst 1 [] .nil] := by rw [h40]; exact cells_new _ _
    refine ⟨rfl, rfl, _, c40, by decide, ?_⟩
    rw [repl_three]
    intro s42 h42
    have c42 : s42.cells s36.next = some (l[k].cs c39) := by rw [h42]; exact cells_set c40
    have l42 : s36.le s42 := by rw [h42]; refine St.le.set ?_ (Nat.le_refl _) _; rw [h40]; exact (St.le.refl _).new _
    have n42 := n28.le (l36.trans l42)
    refine ⟨_, _, _, _, ldvg c42 rfl, _, ldv1 n42.cells rfl, ?_⟩
    refine (Ok_spec l[k] c39 x.size s42).mono ?_
    rintro _ s48 ⟨rfl, l48⟩
    rw [celOk_iff.2 ho]
    refine ⟨_, rfl, ?_⟩
    intro K52 h52
    have c48 := l48.getC c42
    refine ⟨fun _ => ⟨_, ldv1 c48 rfl, ?_⟩, fun h => (by cases h)⟩
    have hlt2 : last < (l[k].id : Int) := hlast _ (by rw [List.drop_eq_getElem_cons hk']; exact List.mem_cons_self ..)
    rw [show decide ((l[k].id : Int) ≤ last) = false by simp; omega]
    refine h52 _ _ ⟨fun h => (by cases h), fun _ => ?_⟩
    have n48 := n27.le ((l36.trans l42).trans l48)
    refine ⟨_, ldv1 c48 rfl, _, _, _, _, ldvg c48 rfl, _, ldv1 c48 rfl, _, n48.maps, by rw [lookM_cel]; rfl, ?_⟩
    intro s60 h60
    have hpw := List.pairwise_iff_getElem.1 hs
    have hnew : ∀ y ∈ l.take k, y.id ≠ l[k].id := by
      intro y hy
      obtain ⟨j, hj, rfl⟩ := List.mem_iff_getElem.1 hy
      rw [List.length_take] at hj
      rw [List.getElem_take]
      have := hpw j k (by omega) hk' (by omega)
      omega
    rw [show (V.agg [V.int .i64 l[k].id, .int .i64 l[k].leaf, .lst 1 (By l[k].data) Cap.unk]) = l[k].v .unk from rfl, updM_cel, putC_new hnew, ← List.take_succ_eq_append_getElem hk'] at h60
    have n60 := n48.setM (Celm (l.take (k + 1)))
    rw [← h60] at n60
    have c60 : s60.cells s36.next = some (l[k].cs c39) := by rw [h60]; exact c48
    refine ⟨ldv1 c60 rfl, l.length - (k + 1), by omega, k + 1, by rw [w64 (by omega)]; omega, by omega, rfl, ?_, n60⟩
    intro y hy
    obtain ⟨j, hj, rfl⟩ := List.mem_iff_getElem.1 hy
    rw [List.length_drop] at hj
    rw [List.getElem_drop]
    have := hpw k (k + 1 + j) hk' (by omega) (by omega)
    omega
  · have hkk : k = l.length := by omega
    subst hkk
    rw [List.take_length] at n27
    exact (Now.toEx s8.next (Now.toPand rfl (n27.perm (B := (mapA s8.next (Celm l) * StaA p x) * emp) (by ac_rfl)))).unemp
theorem StLoad_spec {p : Nat} {x : Sta} {l : List Cel} (c : Cap) (ok : StaOk ⟨x.most, x.size, l⟩) (hs : l.Pairwise fun a b => a.id < b.id) :
    Does Tryz.prog F_stsh_Stash_Load [.ptr p 0, .lst 1 (By (stL x.most x.size l)) c] (StaA p x) fun r => pand (r = .ret (.bool true)) (StaA p ⟨x.most, x.size, l⟩) := by
  intro st I h
  refine w_stsh_Stash_Load ?_
  refine (parse_spec c ok hs).retEx (Now.init h).emp ?_
  intro m s4 n4
  refine ⟨_, _, rfl, ?_⟩
  intro K9 h9
  obtain ⟨m1, n5⟩ := stOpen (n4.perm (B := StaA p x * (mapA m (Celm l) * emp)) (by ac_rfl))
  refine ⟨fun _ => ⟨_, n5.cells, by simp [stC], ?_⟩, fun h => (by cases h)⟩
  intro s8 h8
  have n8 := n5.set (stC ⟨x.most, x.size, l⟩ m)
  rw [show (stC x m1).set 2 (.map m) = stC ⟨x.most, x.size, l⟩ m from rfl] at h8
  rw [← h8] at n8
  refine h9 _ ?_
  have n9 := (n8.perm (B := mapA m1 (Celm x.l) * (cellA p (stC ⟨x.most, x.size, l⟩ m) * (mapA m (Celm l) * emp))) (by ac_rfl)).drop
  exact (Now.toPand rfl (stClose (x := ⟨x.most, x.size, l⟩) n9)).unemp
end Go.Proofs.YtffenelcgjdbiaaGreatDoor
namespace Go.Proofs.YtffenelcgjdbiaaGreatDoor
open Go Go.Sim
set_option maxRecDepth 100000
theorem unpad_pad {b : List UInt8} {most : Nat} (h : b.length ≤ most) (hm : most ≤ 60000) : unpadO (padL b most) most = some b := by
  unfold unpadO
  rw [if_pos ⟨by omega, by omega⟩, Int.toNat_natCast]
  unfold unpadL
  have e1 : (padL b most).take 2 = putL b.length 2 := by rw [padL, List.append_assoc, List.take_left' (by simp)]
  have e2 : getL ((padL b most).take 2) = b.length := by rw [e1]; exact get_putL _ _ (by omega)
  have e3 : (putL b.length 2 ++ b).length = 2 + b.length := by simp
  simp only [e2]
  rw [if_pos ⟨padL_len h, h, by rw [padL, List.drop_left' e3]; simp⟩, padL, List.take_left' e3, List.drop_left' (by simp)]
theorem headL_len (boot seq : Nat) : (headL boot seq).length = 12 := by simp [headL]
theorem sealL_len {key plain : List UInt8} {boot seq size : Nat} (h : plain.length + 22 ≤ size) : (sealL key boot seq plain size).length = size := by
  unfold sealL
  simp only [List.length_append, headL_len, xorL_len, padL_len (show plain.length ≤ size - 22 by omega), putL_len]
  omega
theorem open_seal {key plain : List UInt8} {boot seq size : Nat} (h : plain.length + 22 ≤ size) (hs : size - 22 ≤ 60000) : (openL key (sealL key boot seq plain size)).map (·.1) = some plain := by
  have hl := sealL_len (key := key) (boot := boot) (seq := seq) h
  unfold openL
  simp only [hl]
  rw [if_pos (by omega)]
  have hp : (padL plain (size - 22)).length = size - 22 + 2 := padL_len (by omega)
  have e1 : (sealL key boot seq plain size).take 12 = headL boot seq := by unfold sealL; exact List.take_left' (headL_len _ _)
  have e2 : (sealL key boot seq plain size).drop 12 = xorL key (headL boot seq) 0 (padL plain (size - 22) ++ putL (sumL basis (headL boot seq ++ padL plain (size - 22))) 8) := by
    unfold sealL; exact List.drop_left' (headL_len _ _)
  rw [e1, e2, xor_twice]
  generalize hS : sumL basis (headL boot seq ++ padL plain (size - 22)) = S
  have e3 : (padL plain (size - 22) ++ putL S 8).length - 8 = (padL plain (size - 22)).length := by rw [List.length_append, putL_len]; omega
  rw [e3, List.take_left' rfl, List.drop_left' rfl, show ((size : Int) - 22) = ((size - 22 : Nat) : Int) by omega, unpad_pad (by omega) hs, hS]
  simp
theorem block_write_eq {x : Dk} {n : Int} {b : List UInt8} (h : x.has n = true) : (x.write n b).block n = fitL x.size b := by
  have h' : (x.write n b).has n = true := h
  unfold Dk.block
  rw [if_pos h']
  simp only [Dk.write, h, true_and, if_true]
theorem block_write_ne {x : Dk} {n i : Int} {b : List UInt8} (h : i ≠ n) : (x.write n b).block i = x.block i := by
  have h' : (x.write n b).has i = x.has i := rfl
  unfold Dk.block
  rw [h']
  simp only [Dk.write, h, and_false, if_false]
def Bk.tr (x : Bk) : List (Int × Int) := x.pn.dk.trace.map fun e => (e.kind, e.at_.tdiv 2)
structure BkR (x : Bk) (m n z size : Nat) (B : Nat → List Cel) : Prop where
  key : x.pn.key.length = 32
  boot : x.pn.boot < 2 ^ 32
  seq : x.pn.seq ≤ m
  trace : x.pn.dk.trace.length ≤ m
  base : x.base = 0
  len : x.l.length = n
  small : n ≤ 100000
  fit : z * (8 + size) ≤ 50000
  blocks : x.pn.dk.blocks = 2 * n
  dsz : x.pn.dk.size = 22 + z * (8 + size)
  ev : ∀ e ∈ x.pn.dk.trace, EvOk e
  cont : ∀ k < n, (x.readO k = none ∧ B k = []) ∨ x.readO k = some (codeL (B k) z size)
  room : ∀ k < n, (B k).length ≤ z
  ok : ∀ k < n, ∀ c ∈ B k, CelOk c size
theorem BkR.bkOk {x : Bk} {m n z size : Nat} {B : Nat → List Cel} (h : BkR x m n z size B) (hm : m ≤ 2 ^ 40) : BkOk x :=
  ⟨⟨h.key, h.boot, by have := h.seq; omega, by have := h.dsz; have := h.fit; omega, by have := h.trace; omega⟩, by rw [h.base]; decide, by rw [h.len]; exact h.small⟩
theorem evOk_read {x : Dk} (n : Int) : EvOk ⟨1, n, head12 (x.block n), []⟩ := ⟨head12_length _, Nat.zero_le _⟩
theorem BkR.read {x : Bk} {m n z size : Nat} {B : Nat → List Cel} (h : BkR x m n z size B) (k : Nat) : BkR (x.read k) (m + 1) n z size B := by
  refine ⟨h.key, h.boot, Nat.le_succ_of_le h.seq, ?_, h.base, h.len, h.small, h.fit, h.blocks, h.dsz, ?_, h.cont, h.room, h.ok⟩
  · show (x.pn.dk.trace ++ [_]).length ≤ _
    have := h.trace
    rw [List.length_append]; simpa using this
  · intro e he
    rcases List.mem_append.1 he with he | he
    · exact h.ev e he
    · rw [List.mem_singleton] at he; subst he; exact evOk_read _
theorem BkR.tr_read {x : Bk} {m n z size : Nat} {B : Nat → List Cel} (h : BkR x m n z size B) (k : Nat) : (x.read k).tr = x.tr ++ [(1, (k : Int))] := by
  show (x.pn.dk.trace ++ [_]).map _ = _
  rw [List.map_append]
  congr 1
  show [((1 : Int), ((x.cur k : Nat) : Int).tdiv 2)] = _
  have e : ((x.cur k : Nat) : Int).tdiv 2 = ((x.cur k / 2 : Nat) : Int) := rfl
  rw [e, show x.cur k / 2 = k by unfold Bk.cur Bk.blk; rw [h.base]; split <;> omega]
theorem BkR.mono {x : Bk} {m m' n z size : Nat} {B : Nat → List Cel} (h : BkR x m n z size B) (hm : m ≤ m') : BkR x m' n z size B :=
  ⟨h.key, h.boot, Nat.le_trans h.seq hm, Nat.le_trans h.trace hm, h.base, h.len, h.small, h.fit, h.blocks, h.dsz, h.ev, h.cont, h.room, h.ok⟩
theorem BkR.congr {x : Bk} {m n z size : Nat} {B B' : Nat → List Cel} (h : BkR x m n z size B) (e : ∀ k < n, B' k = B k) : BkR x m n z size B' :=
  ⟨h.key, h.boot, h.seq, h.trace, h.base, h.len, h.small, h.fit, h.blocks, h.dsz, h.ev, fun k hk => by rw [e k hk]; exact h.cont k hk, fun k hk => by rw [e k hk]; exact h.room k hk, fun k hk => by rw [e k hk]; exact h.ok k hk⟩
theorem BkR.commit {x : Bk} {m n z size : Nat} {B : Nat → List Cel} (h : BkR x m n z size B) : BkR x.commit m n z size B := by
  refine ⟨h.key, h.boot, h.seq, h.trace, h.base, ?_, h.small, h.fit, h.blocks, h.dsz, h.ev, ?_, h.room, h.ok⟩
  · show (x.l.map _).length = n; rw [List.length_map, h.len]
  · intro k hk
    have hk' : k < x.l.length := by rw [h.len]; exact hk
    have e : x.commit.cur k = x.cur k := by
      simp only [Bk.cur, Bk.at', Bk.commit, Bk.blk, List.getD_eq_getElem?_getD, List.getElem?_map, List.getElem?_eq_getElem hk', Option.map_some, Option.getD_some]
      cases x.l[k].1 <;> cases x.l[k].2 <;> rfl
    have e2 : x.commit.readO k = x.readO k := by show x.pn.readO (x.commit.cur k) = _; rw [e]; rfl
    rw [e2]; exact h.cont k hk
def updB (B : Nat → List Cel) (k : Nat) (l : List Cel) : Nat → List Cel := fun i => if i = k then l else B i
theorem BkR.write {x : Bk} {m n z size : Nat} {B : Nat → List Cel} (h : BkR x m n z size B) {k : Nat} (hk : k < n) {l : List Cel} (hl : l.length ≤ z) (ok : ∀ c ∈ l, CelOk c size) :
    (x.write k (codeL l z size)).2 = true ∧ BkR (x.write k (codeL l z size)).1 (m + 1) n z size (updB B k l) ∧ (x.write k (codeL l z size)).1.tr = x.tr ++ [(2, (k : Int))] := by
  have hcl := codeL_length hl ok
  have hk' : k < x.l.length := by rw [h.len]; exact hk
  have hfit := h.fit
  have hs : x.pn.dk.size = 22 + z * (8 + size) := h.dsz
  have hat : x.at' k = x.l[k] := by simp [Bk.at', hk']
  have hw : x.pn.write (x.blk k !(x.at' k).1) (codeL l z size) = ({ x.pn with seq := x.pn.seq + 1, dk := x.pn.dk.write (x.blk k !(x.at' k).1) (sealL x.pn.key x.pn.boot x.pn.seq (codeL l z size) x.pn.dk.size) }, true) := by
    unfold Pn.write sealO
    rw [if_pos ⟨by omega, by omega, by omega⟩]
  have hsl : (sealL x.pn.key x.pn.boot x.pn.seq (codeL l z size) x.pn.dk.size).length = x.pn.dk.size := sealL_len (by omega)
  have hos : (openL x.pn.key (sealL x.pn.key x.pn.boot x.pn.seq (codeL l z size) x.pn.dk.size)).map (·.1) = some (codeL l z size) := open_seal (by omega) (by omega)
  generalize sealL x.pn.key x.pn.boot x.pn.seq (codeL l z size) x.pn.dk.size = S at hw hsl hos
  have hfitS : fitL x.pn.dk.size S = S := by unfold fitL; rw [← hsl, Nat.sub_self, List.take_length]; simp
  have hx : x.write k (codeL l z size) = ({ x with pn := { x.pn with seq := x.pn.seq + 1, dk := x.pn.dk.write (x.blk k !(x.at' k).1) S }, l := x.l.set k ((x.at' k).1, true) }, true) := by
    unfold Bk.write
    rw [hw]
    rfl
  rw [hx]
  have hb2 : ∀ b, x.blk k b / 2 = k := fun b => by unfold Bk.blk; rw [h.base]; split <;> omega
  refine ⟨rfl, ⟨h.key, h.boot, by show x.pn.seq + 1 ≤ _; have := h.seq; omega, ?_, h.base, by show (x.l.set _ _).length = n; rw [List.length_set, h.len], h.small, h.fit, h.blocks, h.dsz, ?_, ?_, ?_, ?_⟩, ?_⟩
  · show (x.pn.dk.trace ++ [_]).length ≤ _
    have := h.trace
    rw [List.length_append]; simpa using this
  · intro e he
    rcases List.mem_append.1 he with he | he
    · exact h.ev e he
    · rw [List.mem_singleton] at he; subst he
      exact ⟨head12_length _, by show (fitL _ S).length ≤ _; rw [hfitS, hsl]; omega⟩
  · intro j hj
    have hj' : j < x.l.length := by rw [h.len]; exact hj
    by_cases hjk : j = k
    · subst hjk
      right
      simp only [updB, if_true]
      show (openL x.pn.key ((x.pn.dk.write (x.blk j !(x.at' j).1) S).block (Bk.cur _ j))).map (·.1) = _
      have ecur : Bk.cur { x with pn := { x.pn with seq := x.pn.seq + 1, dk := x.pn.dk.write (x.blk j !(x.at' j).1) S }, l := x.l.set j ((x.at' j).1, true) } j = x.blk j !(x.at' j).1 := by
        simp only [Bk.cur, Bk.at', Bk.blk, List.getD_eq_getElem?_getD, List.getElem?_set_self hj', Option.getD_some, List.getElem?_eq_getElem hj']
        cases x.l[j].1 <;> rfl
      rw [ecur]
      have hhas : x.pn.dk.has (x.blk j !(x.at' j).1 : Nat) = true := by
        unfold Dk.has
        rw [decide_eq_true_eq, h.blocks]
        have := hb2 !(x.at' j).1
        omega
      have hblk : (x.pn.dk.write (x.blk j !(x.at' j).1) S).block (x.blk j !(x.at' j).1 : Nat) = S := by
        rw [block_write_eq hhas, hfitS]
      rw [hblk]
      exact hos
    · have e1 : updB B k l j = B j := by simp only [updB, if_neg hjk]
      rw [e1]
      have e2 : Bk.readO { x with pn := { x.pn with seq := x.pn.seq + 1, dk := x.pn.dk.write (x.blk k !(x.at' k).1) S }, l := x.l.set k ((x.at' k).1, true) } j = x.readO j := by
        have ecur : Bk.cur { x with pn := { x.pn with seq := x.pn.seq + 1, dk := x.pn.dk.write (x.blk k !(x.at' k).1) S }, l := x.l.set k ((x.at' k).1, true) } j = x.cur j := by
          simp only [Bk.cur, Bk.at', Bk.blk, List.getD_eq_getElem?_getD, List.getElem?_set_ne (fun e => hjk e.symm)]
        show (openL x.pn.key ((x.pn.dk.write (x.blk k !(x.at' k).1) S).block (Bk.cur _ j))).map (·.1) = (openL x.pn.key (x.pn.dk.block (x.cur j))).map (·.1)
        rw [ecur]
        have hne : x.cur j ≠ x.blk k !(x.at' k).1 := fun e => by
          have h1 := hb2 !(x.at' k).1
          have h2 : x.cur j / 2 = j := by unfold Bk.cur Bk.blk; rw [h.base]; split <;> omega
          rw [e, h1] at h2
          exact hjk h2.symm
        have hblk : (x.pn.dk.write (x.blk k !(x.at' k).1) S).block (x.cur j : Nat) = x.pn.dk.block (x.cur j : Nat) := by
          exact block_write_ne fun e => hne (by omega)
        rw [hblk]
      rw [e2]
      exact h.cont j hj
  · intro j hj
    unfold updB
    split
    · exact hl
    · exact h.room j hj
  · intro j hj
    unfold updB
    split
    · exact ok
    · exact h.ok j hj
  · show (x.pn.dk.trace ++ [_]).map _ = _
    rw [List.map_append]
    congr 1
    show [((2 : Int), ((x.blk k !(x.at' k).1 : Nat) : Int).tdiv 2)] = _
    have e : ((x.blk k !(x.at' k).1 : Nat) : Int).tdiv 2 = ((x.blk k (!(x.at' k).1) / 2 : Nat) : Int) := rfl
    rw [e, hb2]
end Go.Proofs.YtffenelcgjdbiaaGreatDoor
namespace Go.Proofs.YtffenelcgjdbiaaGreatDoor
open Go Go.Sim
set_option maxRecDepth 100000
theorem putC_mem {l : List Cel} {c y : Cel} (h : y ∈ putC l c) : y = c ∨ y ∈ l := by
  induction l with
  | nil => rw [putC, List.mem_singleton] at h; exact .inl h
  | cons x r ih =>
    rw [putC] at h
    split at h
    · rcases List.mem_cons.1 h with h | h
      · exact .inl h
      · exact .inr (List.mem_cons_of_mem _ h)
    · rcases List.mem_cons.1 h with h | h
      · exact .inr (h ▸ List.mem_cons_self ..)
      · exact (ih h).imp id (List.mem_cons_of_mem _)
theorem putC_length (l : List Cel) (c : Cel) : (putC l c).length = if (look l c.id).isSome then l.length else l.length + 1 := by
  induction l with
  | nil => rfl
  | cons x r ih =>
    rw [putC, look, List.find?_cons]
    by_cases h : c.id = x.id
    · rw [if_pos h, decide_eq_true (show (x.id : Int) = c.id by omega)]; simp
    · rw [if_neg h, decide_eq_false (show ¬ (x.id : Int) = c.id by omega), List.length_cons, ih]
      show _ = if (look r c.id).isSome = true then _ else _
      split <;> simp
theorem StaOk.put {x : Sta} (ok : StaOk x) (c : Cel) : StaOk (x.put c) := by
  unfold Sta.put
  split
  · rename_i h
    rw [staMay, Bool.and_eq_true] at h
    refine ⟨ok.most, ok.size, fun y hy => ?_, ?_⟩
    · rcases putC_mem hy with rfl | hy
      · exact celOk_iff.1 h.1
      · exact ok.ok y hy
    · show (putC x.l c).length ≤ x.most
      rw [putC_length]
      have := ok.long
      split
      · exact this
      · rename_i hn
        have h2 := h.2
        rw [Bool.or_eq_true, decide_eq_true_eq] at h2
        rcases h2 with h2 | h2
        · exact absurd h2 hn
        · omega
  · exact ok
def staPuts (x : Sta) (l : List Cel) : Sta := l.foldl Sta.put x
theorem StaOk.puts {x : Sta} (ok : StaOk x) (l : List Cel) : StaOk (staPuts x l) := by
  induction l generalizing x with
  | nil => exact ok
  | cons c r ih => exact ih (ok.put c)
theorem put_size (x : Sta) (c : Cel) : (x.put c).size = x.size := by unfold Sta.put; split <;> rfl
theorem staPuts_append (x : Sta) (l m : List Cel) : staPuts x (l ++ m) = staPuts (staPuts x l) m := List.foldl_append ..
theorem look_new {l : List Cel} {id : Int} (h : ∀ x ∈ l, (x.id : Int) ≠ id) : look l id = none := by
  rw [look, List.find?_eq_none]
  intro x hx; simpa using h x hx
theorem put_new {x : Sta} {c : Cel} (ok : CelOk c x.size) (h : ∀ y ∈ x.l, (y.id : Int) ≠ c.id) (hl : x.l.length < x.most) : x.put c = ⟨x.most, x.size, x.l ++ [c]⟩ := by
  unfold Sta.put
  rw [if_pos (by rw [staMay, celOk_iff.2 ok, decide_eq_true hl, Bool.or_true]; rfl), putC_new fun y hy e => h y hy (by omega)]
theorem puts_new {x : Sta} {m : List Cel} (ok : ∀ c ∈ m, CelOk c x.size) (hu : Uid (x.l ++ m)) (hl : x.l.length + m.length ≤ x.most) : staPuts x m = ⟨x.most, x.size, x.l ++ m⟩ := by
  induction m generalizing x with
  | nil => rw [List.append_nil]; rfl
  | cons c r ih =>
    have hn : ∀ y ∈ x.l, (y.id : Int) ≠ c.id := fun y hy e => by
      unfold Uid at hu
      rw [List.map_append, List.nodup_append] at hu
      exact hu.2.2 _ (List.mem_map.2 ⟨y, hy, rfl⟩) _ (List.mem_map.2 ⟨c, List.mem_cons_self .., rfl⟩) e
    show staPuts (x.put c) r = _
    rw [List.length_cons] at hl
    rw [put_new (ok c (List.mem_cons_self ..)) hn (by omega)]
    have := ih (x := ⟨x.most, x.size, x.l ++ [c]⟩) (fun y hy => ok y (List.mem_cons_of_mem _ hy)) (by rw [List.append_assoc]; exact hu) (by simp; omega)
    rw [this, List.append_assoc]; rfl
theorem delC_perm {l : List Cel} {id : Int} {c : Cel} (h : look l id = some c) : (c :: delC l id).Perm l := by
  induction l with
  | nil => cases h
  | cons x r ih =>
    rw [look, List.find?_cons] at h
    by_cases hx : (x.id : Int) = id
    · rw [decide_eq_true hx] at h
      cases h
      rw [delC, if_pos hx.symm]
    · rw [decide_eq_false hx] at h
      rw [delC, if_neg fun e => hx e.symm]
      exact (List.Perm.swap ..).trans ((ih h).cons x)
theorem delC_none {l : List Cel} {id : Int} (h : look l id = none) : delC l id = l := by
  induction l with
  | nil => rfl
  | cons x r ih =>
    rw [look, List.find?_cons] at h
    by_cases hx : (x.id : Int) = id
    · rw [decide_eq_true hx] at h; cases h
    · rw [decide_eq_false hx] at h
      rw [delC, if_neg fun e => hx e.symm, ih h]
theorem Uid.perm {l m : List Cel} (h : Uid l) (p : l.Perm m) : Uid m := (p.map _).nodup_iff.1 h
theorem Uid.tail {c : Cel} {l : List Cel} (h : Uid (c :: l)) : Uid l ∧ ∀ y ∈ l, (y.id : Int) ≠ c.id := by
  unfold Uid at h
  rw [List.map_cons, List.nodup_cons] at h
  exact ⟨h.2, fun y hy e => h.1 (List.mem_map.2 ⟨y, hy, e⟩)⟩
theorem evict_fold {d leaf level z : Nat} : ∀ (is : List Int) (s : List Cel × List Cel), is.Nodup → (∀ i ∈ is, ∃ c, look s.2 i = some c) → Uid s.2 → s.1.length ≤ z → (∀ c ∈ s.1, (level : Int) ≤ meetI d c.leaf leaf) →
    ((is.foldl (evStep d leaf level z) s).1 ++ (is.foldl (evStep d leaf level z) s).2).Perm (s.1 ++ s.2) ∧ (is.foldl (evStep d leaf level z) s).1.length ≤ z ∧ ∀ c ∈ (is.foldl (evStep d leaf level z) s).1, (level : Int) ≤ meetI d c.leaf leaf
  | [], s, _, _, _, hz, hc => ⟨.refl _, hz, hc⟩
  | i :: is, s, hn, hl, hu, hz, hc => by
    rw [List.nodup_cons] at hn
    rw [List.foldl_cons]
    obtain ⟨c, hlk⟩ := hl i (List.mem_cons_self ..)
    have hco : celOr s.2 i = c := by rw [celOr, hlk]; rfl
    by_cases hb : s.1.length < z ∧ (level : Int) ≤ meetI d (celOr s.2 i).leaf leaf
    · have he : evStep d leaf level z s i = (s.1 ++ [c], delC s.2 i) := by rw [evStep, if_pos hb, hco]
      rw [he]
      have hp := delC_perm hlk
      have hu2 := hu.perm hp.symm
      obtain ⟨h1, h2, h3⟩ := evict_fold is (s.1 ++ [c], delC s.2 i) hn.2 (fun j hj => by
        obtain ⟨c', hc'⟩ := hl j (List.mem_cons_of_mem _ hj)
        obtain ⟨m1, m2⟩ := look_some hc'
        obtain ⟨k1, k2⟩ := look_some hlk
        have hm := hp.mem_iff.2 m1
        rcases List.mem_cons.1 hm with hm | hm
        · exfalso
          rw [hm] at m2
          exact hn.1 (by rw [← k2, m2]; exact hj)
        · exact ⟨c', by rw [← m2]; exact look_mem hu2.tail.1 hm⟩) hu2.tail.1 (by show (s.1 ++ [c]).length ≤ z; have := hb.1; simp; omega) (fun y hy => by
          rcases List.mem_append.1 hy with hy | hy
          · exact hc y hy
          · rw [List.mem_singleton] at hy; subst hy; rw [← hco]; exact hb.2)
      refine ⟨h1.trans ?_, h2, h3⟩
      show ((s.1 ++ [c]) ++ delC s.2 i).Perm _
      rw [List.append_assoc]
      exact hp.append_left s.1
    · have he : evStep d leaf level z s i = s := by rw [evStep, if_neg hb]
      rw [he]
      exact evict_fold is s hn.2 (fun j hj => hl j (List.mem_cons_of_mem _ hj)) hu hz hc
theorem evict_facts {d leaf level z : Nat} {l : List Cel} (hu : Uid l) :
    ((evictL d leaf level z l).1 ++ (evictL d leaf level z l).2).Perm l ∧ (evictL d leaf level z l).1.length ≤ z ∧ ∀ c ∈ (evictL d leaf level z l).1, (level : Int) ≤ meetI d c.leaf leaf := by
  have h := evict_fold (d := d) (leaf := leaf) (level := level) (z := z) (idsL l) ([], l) (idsL_nodup hu) (fun i hi => by
    obtain ⟨c, hc, rfl⟩ := idsL_mem.1 hi
    exact ⟨c, look_mem hu hc⟩) hu (Nat.zero_le _) (fun c hc => by cases hc)
  exact h
def settleL (d leaf z : Nat) : Nat → List Cel × (Nat → List Cel) → List Cel × (Nat → List Cel)
  | 0, s => s
  | k + 1, s => settleL d leaf z k ((evictL d leaf k z s.1).2, updB s.2 (atL d leaf k) (evictL d leaf k z s.1).1)
theorem shr_eq {a b k : Nat} (h : a ^^^ b < 2 ^ k) : a / 2 ^ k = b / 2 ^ k := by
  have h1 : (a ^^^ b) >>> k = 0 := by rw [Nat.shiftRight_eq_div_pow, Nat.div_eq_of_lt h]
  rw [Nat.shiftRight_xor_distrib] at h1
  have h2 : a >>> k = b >>> k := by
    have := congrArg (· ^^^ (b >>> k)) h1
    simpa [Nat.xor_assoc] using this
  simpa [Nat.shiftRight_eq_div_pow] using h2
theorem meet_on {d leaf a level : Nat} (hv : level ≤ d) (h : (level : Int) ≤ meetI d a leaf) : atL d leaf level ∈ onL d a := by
  unfold meetI at h
  have h1 : a ^^^ leaf < 2 ^ (d - level) := bl_le.1 (by omega)
  have h2 := shr_eq h1
  rw [onL, List.mem_map]
  exact ⟨level, List.mem_range.2 (by omega), by unfold atL; rw [h2]⟩
theorem atL_bounds {d leaf level : Nat} (hl : leaf < 2 ^ d) (hv : level ≤ d) : 2 ^ level - 1 ≤ atL d leaf level ∧ atL d leaf level < 2 ^ (level + 1) - 1 := by
  have h1 : leaf / 2 ^ (d - level) < 2 ^ level := by
    rw [Nat.div_lt_iff_lt_mul (Nat.pow_pos (by decide)), ← Nat.pow_add, show level + (d - level) = d by omega]; exact hl
  have h3 : 1 ≤ 2 ^ level := Nat.one_le_two_pow
  unfold atL
  rw [Nat.pow_succ]
  generalize leaf / 2 ^ (d - level) = q at *
  generalize 2 ^ level = r at *
  omega
theorem atL_inj {d leaf a b : Nat} (hl : leaf < 2 ^ d) (ha : a ≤ d) (hb : b ≤ d) (h : atL d leaf a = atL d leaf b) : a = b := by
  have h1 := atL_bounds hl ha
  have h2 := atL_bounds hl hb
  have lem : ∀ a b : Nat, a < b → 2 ^ (a + 1) - 1 ≤ 2 ^ b - 1 := fun a b hab => by
    have := Nat.pow_le_pow_right (show 0 < 2 by decide) (show a + 1 ≤ b from hab)
    omega
  rcases Nat.lt_trichotomy a b with c | c | c
  · have := lem a b c; omega
  · exact c
  · have := lem b a c; omega
def allB (n : Nat) (B : Nat → List Cel) : List Cel := (List.range n).flatMap B
theorem allB_succ (n : Nat) (B : Nat → List Cel) : allB (n + 1) B = allB n B ++ B n := by rw [allB, List.range_succ, List.flatMap_append]; simp [allB]
theorem allB_congr {n : Nat} {B C : Nat → List Cel} (h : ∀ k < n, B k = C k) : allB n B = allB n C := by
  unfold allB
  rw [List.flatMap_def, List.flatMap_def]
  congr 1
  exact List.map_congr_left fun k hk => h k (List.mem_range.1 hk)
theorem allB_upd {n k : Nat} (hk : k < n) {B : Nat → List Cel} (hB : B k = []) (l : List Cel) : (allB n (updB B k l)).Perm (l ++ allB n B) := by
  induction n with
  | zero => omega
  | succ n ih =>
    rw [allB_succ, allB_succ]
    by_cases h : k = n
    · subst h
      rw [hB, List.append_nil, show updB B k l k = l by simp [updB]]
      rw [allB_congr (n := k) (B := updB B k l) (C := B) fun j hj => by rw [updB, if_neg (by omega)]]
      exact List.perm_append_comm
    · rw [show updB B k l n = B n by rw [updB, if_neg fun e => h e.symm]]
      refine ((ih (by omega)).append_right _).trans ?_
      rw [List.append_assoc]
theorem mem_allB {n : Nat} {B : Nat → List Cel} {c : Cel} : c ∈ allB n B ↔ ∃ k < n, c ∈ B k := by
  unfold allB
  rw [List.mem_flatMap]
  simp only [List.mem_range]
def offB (d leaf : Nat) (B : Nat → List Cel) (k : Nat) : Nat → List Cel := fun i => if i ∈ (List.range k).map (atL d leaf) then [] else B i
theorem offB_succ {d leaf : Nat} {B : Nat → List Cel} {k : Nat} (hl : leaf < 2 ^ d) (hk : k ≤ d) : offB d leaf B k = updB (offB d leaf B (k + 1)) (atL d leaf k) (B (atL d leaf k)) := by
  funext i
  unfold offB updB
  by_cases hi : i = atL d leaf k
  · subst hi
    rw [if_pos rfl, if_neg]
    intro h
    obtain ⟨j, hj, e⟩ := List.mem_map.1 h
    rw [List.mem_range] at hj
    have := atL_inj hl (by omega) hk e
    omega
  · rw [if_neg hi]
    have : (i ∈ (List.range (k + 1)).map (atL d leaf)) ↔ i ∈ (List.range k).map (atL d leaf) := by
      rw [range_step, List.mem_append, List.mem_singleton]
      exact ⟨fun h => h.resolve_right hi, .inl⟩
    simp only [this]
theorem offB_at {d leaf : Nat} {B : Nat → List Cel} {k : Nat} : offB d leaf B (k + 1) (atL d leaf k) = [] := by
  unfold offB
  rw [if_pos (List.mem_map.2 ⟨k, List.mem_range.2 (by omega), rfl⟩)]
theorem carry_perm {d leaf : Nat} (hl : leaf < 2 ^ d) (B : Nat → List Cel) : ∀ k, k ≤ d + 1 → (allB (2 * 2 ^ d - 1) B).Perm (((List.range k).map (atL d leaf)).flatMap B ++ allB (2 * 2 ^ d - 1) (offB d leaf B k))
  | 0, _ => by
    show (allB _ B).Perm ([] ++ _)
    rw [List.nil_append, allB_congr (C := offB d leaf B 0)]
    intro i _; simp [offB]
  | k + 1, hk => by
    refine (carry_perm hl B k (by omega)).trans ?_
    rw [range_step, List.flatMap_append, List.append_assoc]
    refine List.Perm.append_left _ ?_
    rw [offB_succ hl (by omega)]
    have := allB_upd (n := 2 * 2 ^ d - 1) (atL_lt hl (show k ≤ d by omega)) (offB_at (B := B)) (B (atL d leaf k))
    simpa using this
theorem settle_law {d leaf z : Nat} (hl : leaf < 2 ^ d) : ∀ (k : Nat) (s : List Cel × (Nat → List Cel)), k ≤ d + 1 → Uid s.1 →
    ((settleL d leaf z k s).1 ++ allB (2 * 2 ^ d - 1) (settleL d leaf z k s).2).Perm (s.1 ++ allB (2 * 2 ^ d - 1) (offB d leaf s.2 k)) ∧
    (∀ i, i ∉ (List.range k).map (atL d leaf) → (settleL d leaf z k s).2 i = s.2 i) ∧
    (∀ i ∈ (List.range k).map (atL d leaf), ((settleL d leaf z k s).2 i).length ≤ z ∧ ∀ c ∈ (settleL d leaf z k s).2 i, i ∈ onL d c.leaf)
  | 0, s, _, _ => by
    refine ⟨?_, fun i _ => rfl, fun i hi => by cases hi⟩
    show (s.1 ++ allB _ s.2).Perm _
    rw [allB_congr (B := s.2) (C := offB d leaf s.2 0)]
    intro i _; simp [offB]
  | k + 1, s, hk, hu => by
    obtain ⟨e1, e2, e3⟩ := evict_facts (d := d) (leaf := leaf) (level := k) (z := z) hu
    have hu1 : Uid (evictL d leaf k z s.1).2 := by
      have := hu.perm e1.symm
      unfold Uid at this ⊢
      rw [List.map_append, List.nodup_append] at this
      exact this.2.1
    obtain ⟨h1, h2, h3⟩ := settle_law (z := z) hl k ((evictL d leaf k z s.1).2, updB s.2 (atL d leaf k) (evictL d leaf k z s.1).1) (by omega) hu1
    have hout : atL d leaf k ∉ (List.range k).map (atL d leaf) := fun h => by
      obtain ⟨j, hj, e⟩ := List.mem_map.1 h
      rw [List.mem_range] at hj
      have := atL_inj hl (by omega) (by omega) e
      omega
    have hset : settleL d leaf z (k + 1) s = settleL d leaf z k ((evictL d leaf k z s.1).2, updB s.2 (atL d leaf k) (evictL d leaf k z s.1).1) := rfl
    rw [hset]
    refine ⟨h1.trans ?_, ?_, ?_⟩
    · have eo : offB d leaf (updB s.2 (atL d leaf k) (evictL d leaf k z s.1).1) k = updB (offB d leaf s.2 (k + 1)) (atL d leaf k) (evictL d leaf k z s.1).1 := by
        have := offB_succ (B := updB s.2 (atL d leaf k) (evictL d leaf k z s.1).1) hl (show k ≤ d by omega)
        rw [this, show updB s.2 (atL d leaf k) (evictL d leaf k z s.1).1 (atL d leaf k) = (evictL d leaf k z s.1).1 by simp [updB]]
        funext i
        unfold updB offB
        by_cases hi : i = atL d leaf k
        · rw [if_pos hi, if_pos hi]
        · rw [if_neg hi, if_neg hi]; simp only [hi, if_false]
      show ((evictL d leaf k z s.1).2 ++ allB _ (offB d leaf (updB s.2 (atL d leaf k) (evictL d leaf k z s.1).1) k)).Perm _
      rw [eo]
      refine ((allB_upd (atL_lt hl (show k ≤ d by omega)) offB_at _).append_left _).trans ?_
      rw [← List.append_assoc]
      refine List.Perm.append_right _ ?_
      exact List.perm_append_comm.trans e1
    · intro i hi
      rw [range_step, List.mem_append, List.mem_singleton] at hi
      rw [h2 i fun h => hi (.inl h)]
      show updB _ _ _ _ = _
      rw [updB, if_neg fun h => hi (.inr h)]
    · intro i hi
      rw [range_step, List.mem_append, List.mem_singleton] at hi
      by_cases hik : i = atL d leaf k
      · subst hik
        rw [h2 _ hout]
        show (updB _ _ _ _).length ≤ z ∧ ∀ c ∈ updB _ _ _ _, _
        rw [show updB s.2 (atL d leaf k) (evictL d leaf k z s.1).1 (atL d leaf k) = (evictL d leaf k z s.1).1 by simp [updB]]
        exact ⟨e2, fun c hc => meet_on (by omega) (e3 c hc)⟩
      · exact h3 i (hi.resolve_right hik)
end Go.Proofs.YtffenelcgjdbiaaGreatDoor
namespace Go.Proofs.YtffenelcgjdbiaaGreatDoor
open Go Go.Sim
set_option maxRecDepth 100000
structure Oq where
  o : Nat
  b : Nat
  p : Nat
  dv : Nat
  s : Nat
  m : Nat
  t : Nat
structure Om where
  d : Nat
  z : Nat
  size : Nat
  bk : Bk
  src : Src
  ps : Ps
  sta : Sta
  shown : List Nat
def orC (q : Oq) (x : Om) (c : Cap) : List V := [.ptr q.b 0, .ptr q.s 0, .int .i64 (2 ^ x.d : Nat), .int .i64 x.z, .int .i64 x.size, .ptr q.m 0, .ptr q.t 0, .lst 1 (U64s x.shown) c]
def OrA (q : Oq) (x : Om) : Asn := ex fun c => cellA q.o (orC q x c) * (BkA q.b q.p q.dv x.bk * (SrcA q.s x.src * (PsA q.m x.ps * (StaA q.t x.sta * capA c))))
theorem orOpen {st s : St} {I : Nat → Prop} {q : Oq} {x : Om} {R : Asn} (h : Now st I (OrA q x * R) s) :
    ∃ c, Now st I (cellA q.o (orC q x c) * (BkA q.b q.p q.dv x.bk * (SrcA q.s x.src * (PsA q.m x.ps * (StaA q.t x.sta * (capA c * R)))))) s := by
  obtain ⟨c, n⟩ := h.ex
  exact ⟨c, n.perm (by simp only [sep_assoc])⟩
theorem orClose {st s : St} {I : Nat → Prop} {q : Oq} {x : Om} {R : Asn} {c : Cap}
    (h : Now st I (cellA q.o (orC q x c) * (BkA q.b q.p q.dv x.bk * (SrcA q.s x.src * (PsA q.m x.ps * (StaA q.t x.sta * (capA c * R)))))) s) : Now st I (OrA q x * R) s :=
  Now.toEx c (h.perm (by simp only [sep_assoc]))
theorem OrNew_spec (q : Oq) (ids d z size : Nat) (hi : ids ≤ 10000) (hs : size ≤ 60000) (st : St) :
    RCall Tryz.prog F_oram_New [.ptr q.b 0, .ptr q.s 0, .int .i64 ids, .int .i64 (2 ^ d : Nat), .int .i64 z, .int .i64 size] st fun r s => ∃ o m t, r = .ret (.ptr o 0) ∧
      ∀ st0 I bk src R, Now st0 I (BkA q.b q.p q.dv bk * (SrcA q.s src * R)) st →
        Now st0 I (OrA { q with o := o, m := m, t := t } ⟨d, z, size, bk, src, List.replicate ids (0, 0), ⟨ids, size, []⟩, []⟩ * R) s := by
  refine w_oram_New ?_
  refine (PsNew_spec ids hi st).mono ?_
  rintro _ s8 ⟨m, rfl, hN⟩
  refine ⟨_, rfl, ?_⟩
  refine (StNew_spec ids size hi hs s8).mono ?_
  rintro _ s11 ⟨t, rfl, hM⟩
  refine ⟨_, rfl, ?_⟩
  intro s13 h13
  refine ⟨_, m, t, rfl, fun st0 I bk src R h0 => ?_⟩
  have n11 := (((hM _ _ _ (hN _ _ _ h0)).le ((St.le.refl s11).new _)).own (Own.nil (.refl (s11.newC [.ptr q.b 0, .ptr q.s 0, .int .i64 (2 ^ d : Nat), .int .i64 z, .int .i64 size, .ptr m 0, .ptr t 0, .lst 1 ([] : List V) .nil]))))
  have n12 := ((hM _ _ _ (hN _ _ _ h0)).newC [.ptr q.b 0, .ptr q.s 0, .int .i64 (2 ^ d : Nat), .int .i64 z, .int .i64 size, .ptr m 0, .ptr t 0, .lst 1 ([] : List V) .nil]).own (Own.nil (.refl _))
  rw [← h13] at n12
  exact orClose (c := .nil) (n12.perm (by unfold orC; ac_rfl))
theorem bucket_spec {q : Oq} {x : Om} {m n : Nat} {B : Nat → List Cel} (k : Nat) (hk : k < n) (hz : x.z ≤ 16) (hs : x.size ≤ 60000) (hb : BkR x.bk m n x.z x.size B) (hm : m ≤ 2 ^ 40) :
    Does Tryz.prog F_oram_Oram_bucket [.ptr q.o 0, .int .i64 k] (OrA q x) fun r => ex fun c => pand (r = .ret (.lst 3 (Cels (B k)) c)) (OrA q { x with bk := x.bk.read k }) := by
  intro st I h
  obtain ⟨c, n0⟩ := orOpen (Now.init h).emp
  refine w_oram_Oram_bucket ⟨_, ldv1 n0.cells rfl, ?_⟩
  refine (BRead_spec k (by rw [hb.len]; exact hk) (hb.bkOk hm)).retEx (n0.perm (B := BkA q.b q.p q.dv x.bk * (cellA q.o (orC q x c) * (SrcA q.s x.src * (PsA q.m x.ps * (StaA q.t x.sta * (capA c * emp)))))) (by ac_rfl)) ?_
  intro c6 s5 n5
  have n5' := n5.perm (B := cellA q.o (orC q { x with bk := x.bk.read k } c) * (BkA q.b q.p q.dv (x.bk.read k) * (SrcA q.s x.src * (PsA q.m x.ps * (StaA q.t x.sta * (capA c * emp)))))) (by unfold orC; ac_rfl)
  refine ⟨_, _, _, rfl, ?_⟩
  rcases hb.cont k hk with ⟨h1, h2⟩ | h1
  · rw [h1, h2]
    exact ⟨fun _ => (Now.toEx Cap.nil (Now.toPand rfl (orClose n5'))).unemp, fun h => (by cases h)⟩
  · rw [h1]
    refine ⟨fun h => (by cases h), fun _ => ⟨_, ldv1 n5'.cells rfl, _, ldv1 n5'.cells rfl, ?_⟩⟩
    refine (Parse_spec (l := B k) c6 hz hs (hb.room k hk) (hb.ok k hk) s5).mono ?_
    rintro _ s11 ⟨c12, rfl, l11⟩
    exact ⟨_, _, _, rfl, (Now.toEx c12 (Now.toPand rfl ((orClose n5').le l11))).unemp⟩
def evR (l : List Nat) : List (Int × Int) := l.map fun (k : Nat) => ((1 : Int), (k : Int))
def evW (l : List Nat) : List (Int × Int) := l.map fun (k : Nat) => ((2 : Int), (k : Int))
theorem repl_two' (a b c d : V) : repl [a, b] 0 [c, d] = [c, d] := rfl
theorem carry_spec {q : Oq} {x : Om} {m leaf : Nat} {B : Nat → List Cel} (hd : x.d ≤ 16) (hf : leaf < 2 ^ x.d) (hz : x.z ≤ 16) (hb : BkR x.bk m (2 * 2 ^ x.d - 1) x.z x.size B) (hm : m ≤ 2 ^ 39)
    (po : PsOk x.ps) (so : StaOk x.sta) (hs : x.sta.size = x.size) (hall : ∀ c ∈ (onL x.d leaf).flatMap B, (psGet x.ps c.id).isSome = true) :
    Does Tryz.prog F_oram_Oram_carry [.ptr q.o 0, .int .i64 leaf] (OrA q x) fun r => ex fun bk => pand (r = .ret (.tup []) ∧ BkR bk (m + (x.d + 1)) (2 * 2 ^ x.d - 1) x.z x.size B ∧ bk.tr = x.bk.tr ++ evR (onL x.d leaf))
      (OrA q { x with bk := bk, sta := staPuts x.sta ((onL x.d leaf).flatMap B) }) := by
  intro st I h
  have nn := (Now.init h).emp
  obtain ⟨c, n0⟩ := orOpen nn
  have hs6 : x.size ≤ 60000 := by rw [← hs]; exact so.size
  refine w_oram_Oram_carry ⟨_, ldv1 n0.cells rfl, ?_⟩
  refine (On_spec hd hf st).mono ?_
  rintro _ s5 ⟨c6, rfl, o5⟩
  refine ⟨_, _, rfl, ?_⟩
  rw [Is_length, onL_len]
  refine ⟨fun n i s => ∃ k : Nat, i = k ∧ k ≤ x.d + 1 ∧ n = x.d + 1 - k ∧ ∃ bk, BkR bk (m + k) (2 * 2 ^ x.d - 1) x.z x.size B ∧ bk.tr = x.bk.tr ++ evR ((onL x.d leaf).take k) ∧
      Now st I (OrA q { x with bk := bk, sta := staPuts x.sta (((onL x.d leaf).take k).flatMap B) } * emp) s,
    ⟨x.d + 1, 0, rfl, by omega, rfl, x.bk, hb, by simp [evR], by simpa [staPuts] using nn.le o5.le⟩, ?_⟩
  rintro _ _ s10 ⟨k, rfl, hk, rfl, bk, hbk, htr, n10⟩
  refine br (fun hlt => ?_) fun hge => ?_
  · have hk' : k < (onL x.d leaf).length := by rw [onL_len]; omega
    have hb1 : (onL x.d leaf)[k] < 2 * 2 ^ x.d - 1 := by
      simp only [onL, List.getElem_map, List.getElem_range]
      exact atL_lt hf (by omega)
    have estep : (onL x.d leaf).take (k + 1) = (onL x.d leaf).take k ++ [(onL x.d leaf)[k]] := List.take_succ_eq_append_getElem hk'
    have hmem : (onL x.d leaf)[k] ∈ onL x.d leaf := List.getElem_mem hk'
    refine ⟨k, rfl, _, Is_get hk', ?_⟩
    generalize (onL x.d leaf)[k] = b at hb1 estep hmem ⊢
    refine (bucket_spec (x := { x with bk := bk, sta := staPuts x.sta (((onL x.d leaf).take k).flatMap B) }) b hb1 hz hs6 hbk (by omega)).retEx n10 ?_
    intro c15 s14 n14
    refine ⟨_, _, rfl, ?_⟩
    rw [Cels_length]
    refine ⟨fun n i s => ∃ j : Nat, i = j ∧ j ≤ (B b).length ∧ n = (B b).length - j ∧
        Now st I (OrA q { x with bk := bk.read b, sta := staPuts x.sta (((onL x.d leaf).take k).flatMap B ++ (B b).take j) } * emp) s,
      ⟨(B b).length, 0, rfl, by omega, rfl, by simpa using n14⟩, ?_⟩
    rintro _ _ s19 ⟨j, rfl, hj, rfl, n19⟩
    have hroom := hb.room b hb1
    refine br (fun hlt2 => ?_) fun hge2 => ?_
    · intro K44 h44
      have hj' : j < (B b).length := by omega
      refine ⟨j, rfl, _, _, _, _, Cels_get hj', ?_⟩
      have hcm : (B b)[j] ∈ (onL x.d leaf).flatMap B := List.mem_flatMap.2 ⟨b, hmem, List.getElem_mem hj'⟩
      have hget := hall _ hcm
      have estep2 : (B b).take (j + 1) = (B b).take j ++ [(B b)[j]] := List.take_succ_eq_append_getElem hj'
      generalize (B b)[j] = e at hget estep2 ⊢
      intro s24 h24
      have c24 : s24.cells s19.next = some [.int .i64 0, .int .i64 0, .lst 1 [] .nil] := by rw [h24]; exact cells_new _ _
      refine ⟨rfl, rfl, _, c24, by decide, ?_⟩
      rw [repl_three]
      intro s26 h26
      have c26 : s26.cells s19.next = some (e.cs .unk) := by rw [h26]; exact cells_set c24
      have l26 : s19.le s26 := by rw [h26]; refine St.le.set ?_ (Nat.le_refl _) _; rw [h24]; exact (St.le.refl _).new _
      have n24 := n19.newC [.int .i64 0, .int .i64 0, .lst 1 [] .nil]
      rw [← h24] at n24
      have n26 := n24.set (e.cs .unk)
      have h26' : s26 = s24.setC s19.next (e.cs .unk) := h26
      rw [← h26'] at n26
      obtain ⟨cc, n27⟩ := orOpen (n26.perm (B := OrA q { x with bk := bk.read b, sta := staPuts x.sta (((onL x.d leaf).take k).flatMap B ++ (B b).take j) } * (cellA s19.next (e.cs .unk) * emp)) (by ac_rfl))
      refine ⟨_, ldv1 n27.cells rfl, _, ldv1 c26 rfl, ?_⟩
      refine (PsGet_spec (e.id : Int) po).ret (n27.perm (B := PsA q.m x.ps * (cellA q.o (orC q { x with bk := bk.read b, sta := staPuts x.sta (((onL x.d leaf).take k).flatMap B ++ (B b).take j) } cc) * (BkA q.b q.p q.dv (bk.read b) * (SrcA q.s x.src * (StaA q.t (staPuts x.sta (((onL x.d leaf).take k).flatMap B ++ (B b).take j)) * (capA cc * (cellA s19.next (e.cs .unk) * emp))))))) (by ac_rfl)) ?_
      intro s30 n30
      refine ⟨_, _, _, rfl, ?_⟩
      rw [hget]
      intro s34 h34
      have n34 := n30.newC [.int .i64 0, .int .u64 0]
      rw [← h34] at n34
      refine ⟨rfl, rfl, _, n34.cells, by decide, ?_⟩
      rw [repl_two']
      intro s36 h36
      have n36 := n34.set [.int .i64 ((psGet x.ps e.id).getD (0, 0)).1, .int .u64 ((psGet x.ps e.id).getD (0, 0)).2]
      rw [← h36] at n36
      have n37 := n36.drop
      have m1 := n37.perm (B := cellA q.o (orC q { x with bk := bk.read b, sta := staPuts x.sta (((onL x.d leaf).take k).flatMap B ++ (B b).take j) } cc) * (PsA q.m x.ps * (BkA q.b q.p q.dv (bk.read b) * (SrcA q.s x.src * (StaA q.t (staPuts x.sta (((onL x.d leaf).take k).flatMap B ++ (B b).take j)) * (capA cc * (cellA s19.next (e.cs .unk) * emp))))))) (by ac_rfl)
      have m2 := n37.perm (B := cellA s19.next (e.cs .unk) * (cellA q.o (orC q { x with bk := bk.read b, sta := staPuts x.sta (((onL x.d leaf).take k).flatMap B ++ (B b).take j) } cc) * (PsA q.m x.ps * (BkA q.b q.p q.dv (bk.read b) * (SrcA q.s x.src * (StaA q.t (staPuts x.sta (((onL x.d leaf).take k).flatMap B ++ (B b).take j)) * (capA cc * emp))))))) (by ac_rfl)
      refine ⟨fun _ => ⟨_, ldv1 m1.cells rfl, _, _, _, _, ldvg m2.cells rfl, ?_⟩, fun h => (by cases h)⟩
      refine (StPut_spec e .unk (so.puts _)).ret (n37.perm (B := StaA q.t (staPuts x.sta (((onL x.d leaf).take k).flatMap B ++ (B b).take j)) * (cellA s19.next (e.cs .unk) * (cellA q.o (orC q { x with bk := bk.read b, sta := staPuts x.sta (((onL x.d leaf).take k).flatMap B ++ (B b).take j) } cc) * (PsA q.m x.ps * (BkA q.b q.p q.dv (bk.read b) * (SrcA q.s x.src * (capA cc * emp))))))) (by ac_rfl)) ?_
      intro s42 n42
      refine ⟨_, rfl, ?_⟩
      refine h44 _ ⟨(B b).length - (j + 1), by omega, j + 1, by rw [w64 (by omega)]; omega, by omega, rfl, ?_⟩
      have e3 : (staPuts x.sta (((onL x.d leaf).take k).flatMap B ++ (B b).take j)).put e = staPuts x.sta (((onL x.d leaf).take k).flatMap B ++ (B b).take (j + 1)) := by
        rw [estep2, ← List.append_assoc, staPuts_append _ _ [e]]; rfl
      rw [e3] at n42
      refine orClose (c := cc) ?_
      exact (n42.perm (B := cellA s19.next (e.cs .unk) * (cellA q.o (orC q { x with bk := bk.read b, sta := staPuts x.sta (((onL x.d leaf).take k).flatMap B ++ (B b).take j) } cc) * (BkA q.b q.p q.dv (bk.read b) * (SrcA q.s x.src * (PsA q.m x.ps * (StaA q.t (staPuts x.sta (((onL x.d leaf).take k).flatMap B ++ (B b).take (j + 1))) * (capA cc * emp))))))) (by ac_rfl)).drop
    · refine ⟨x.d + 1 - (k + 1), by omega, k + 1, by rw [w64 (by omega)]; omega, by omega, rfl, bk.read b, hbk.read b, ?_, ?_⟩
      · rw [hbk.tr_read, htr, estep, evR, evR, List.map_append, List.append_assoc]; rfl
      · rw [List.take_of_length_le (show (B b).length ≤ j by omega)] at n19
        rw [estep, List.flatMap_append, List.flatMap_cons, List.flatMap_nil, List.append_nil]
        exact n19
  · have hkk : k = x.d + 1 := by omega
    subst hkk
    have e : (onL x.d leaf).take (x.d + 1) = onL x.d leaf := List.take_of_length_le (by rw [onL_len]; exact Nat.le_refl _)
    rw [e] at htr n10
    exact (Now.toEx bk (Now.toPand ⟨rfl, hbk, htr⟩ n10)).unemp
theorem evict_sub {d leaf level z : Nat} {l : List Cel} (hu : Uid l) : (∀ c ∈ (evictL d leaf level z l).1, c ∈ l) ∧ (∀ c ∈ (evictL d leaf level z l).2, c ∈ l) ∧ Uid (evictL d leaf level z l).2 ∧ (evictL d leaf level z l).2.length ≤ l.length := by
  obtain ⟨hp, _, _⟩ := evict_facts (d := d) (leaf := leaf) (level := level) (z := z) hu
  refine ⟨fun c hc => hp.mem_iff.1 (List.mem_append_left _ hc), fun c hc => hp.mem_iff.1 (List.mem_append_right _ hc), ?_, ?_⟩
  · have := hu.perm hp.symm
    unfold Uid at this ⊢
    rw [List.map_append, List.nodup_append] at this
    exact this.2.1
  · have := hp.length_eq
    rw [List.length_append] at this
    omega
theorem settle_spec {q : Oq} {x : Om} {m leaf : Nat} {B : Nat → List Cel} (hd : x.d ≤ 16) (hf : leaf < 2 ^ x.d) (hz : x.z ≤ 16) (hb : BkR x.bk m (2 * 2 ^ x.d - 1) x.z x.size B) (hm : m ≤ 2 ^ 39)
    (so : StaOk x.sta) (hs : x.sta.size = x.size) (hu : Uid x.sta.l) (hlf : ∀ c ∈ x.sta.l, c.leaf < 2 ^ x.d) :
    Does Tryz.prog F_oram_Oram_settle [.ptr q.o 0, .int .i64 leaf] (OrA q x) fun r => ex fun bk => pand (r = .ret (.tup []) ∧ BkR bk (m + (x.d + 1)) (2 * 2 ^ x.d - 1) x.z x.size (settleL x.d leaf x.z (x.d + 1) (x.sta.l, B)).2 ∧ bk.tr = x.bk.tr ++ evW (onL x.d leaf).reverse)
      (OrA q { x with bk := bk, sta := ⟨x.sta.most, x.sta.size, (settleL x.d leaf x.z (x.d + 1) (x.sta.l, B)).1⟩ }) := by
  intro st I h
  have nn := (Now.init h).emp
  obtain ⟨c, n0⟩ := orOpen nn
  have hs6 : x.size ≤ 60000 := by rw [← hs]; exact so.size
  have hmost := so.most
  refine w_oram_Oram_settle ⟨_, ldv1 n0.cells rfl, ?_⟩
  refine (On_spec hd hf st).mono ?_
  rintro _ s5 ⟨c6, rfl, o5⟩
  refine ⟨_, _, rfl, ?_⟩
  rw [Is_length, onL_len]
  refine ⟨fun n i s => ∃ k : Nat, i = (k : Int) - 1 ∧ k ≤ x.d + 1 ∧ n = k ∧ ∃ (bk : Bk) (w : List Cel × (Nat → List Cel)), settleL x.d leaf x.z k w = settleL x.d leaf x.z (x.d + 1) (x.sta.l, B) ∧
      Uid w.1 ∧ w.1.length ≤ x.sta.l.length ∧ (∀ e ∈ w.1, e ∈ x.sta.l) ∧ BkR bk (m + (x.d + 1 - k)) (2 * 2 ^ x.d - 1) x.z x.size w.2 ∧ bk.tr = x.bk.tr ++ evW ((onL x.d leaf).drop k).reverse ∧
      Now st I (OrA q { x with bk := bk, sta := ⟨x.sta.most, x.sta.size, w.1⟩ } * emp) s,
    ⟨x.d + 1, x.d + 1, by rw [w64 (by omega)], Nat.le_refl _, rfl, x.bk, (x.sta.l, B), rfl, hu, Nat.le_refl _, fun e he => he, by simpa using hb, ?_, nn.le o5.le⟩, ?_⟩
  · rw [List.drop_of_length_le (by rw [onL_len]; exact Nat.le_refl _)]; simp [evW]
  rintro k _ s10 ⟨_, rfl, hk, rfl, bk, w, hw, huw, hlw, hmw, hbk, htr, n10⟩
  refine br (fun hge => ?_) fun hlt => ?_
  · obtain ⟨j, rfl⟩ : ∃ j, k = j + 1 := ⟨k - 1, by omega⟩
    have hjd : j ≤ x.d := by omega
    have ej : ((j + 1 : Nat) : Int) - 1 = (j : Int) := by omega
    rw [ej]
    obtain ⟨cc, n11⟩ := orOpen n10
    refine ⟨_, ldv1 n11.cells rfl, _, ldv1 n11.cells rfl, _, ldv1 n11.cells rfl, _, ldv1 n11.cells rfl, _, ldv1 n11.cells rfl, ?_⟩
    have hlong := so.long
    obtain ⟨e1, e2, e3⟩ := evict_facts (d := x.d) (leaf := leaf) (level := j) (z := x.z) huw
    obtain ⟨f1, f2, f3, f4⟩ := evict_sub (d := x.d) (leaf := leaf) (level := j) (z := x.z) huw
    refine (Evict_spec (x := ⟨x.sta.most, x.sta.size, w.1⟩) hd hf hjd (show x.z ≤ 2 ^ 32 by omega) (show w.1.length ≤ 10000 by omega) (fun e he => (so.ok e (hmw e he)).id) (fun e he => hlf e (hmw e he))).retEx
      (n11.perm (B := StaA q.t ⟨x.sta.most, x.sta.size, w.1⟩ * (cellA q.o (orC q { x with bk := bk, sta := ⟨x.sta.most, x.sta.size, w.1⟩ } cc) * (BkA q.b q.p q.dv bk * (SrcA q.s x.src * (PsA q.m x.ps * (capA cc * emp)))))) (by ac_rfl)) ?_
    intro c18 s17 n17
    have n18 := n17.perm (B := cellA q.o (orC q { x with bk := bk, sta := ⟨x.sta.most, x.sta.size, w.1⟩ } cc) * (BkA q.b q.p q.dv bk * (SrcA q.s x.src * (PsA q.m x.ps * (StaA q.t ⟨x.sta.most, x.sta.size, (evictL x.d leaf j x.z w.1).2⟩ * (capA cc * emp)))))) (by ac_rfl)
    refine ⟨_, _, rfl, ldv1 n18.cells rfl, ldv1 n18.cells rfl, ?_⟩
    have okc : ∀ e ∈ (evictL x.d leaf j x.z w.1).1, CelOk e x.size := fun e he => by rw [← hs]; exact so.ok e (hmw e (f1 e he))
    refine (Code_spec c18 hz hs6 e2 okc s17).mono ?_
    rintro _ s20 ⟨c21, rfl, o20⟩
    have n20 := n18.le o20.le
    have hkl : j < (onL x.d leaf).length := by rw [onL_len]; omega
    have hat : (onL x.d leaf)[j] = atL x.d leaf j := by simp only [onL, List.getElem_map, List.getElem_range]
    refine ⟨_, _, _, rfl, _, ldv1 n20.cells rfl, j, rfl, _, Is_get hkl, ?_⟩
    have hlt : atL x.d leaf j < 2 * 2 ^ x.d - 1 := atL_lt hf hjd
    rw [hat]
    have hm2 : m + (x.d + 1 - (j + 1)) ≤ 2 ^ 40 := by omega
    refine (BWrite_spec (atL x.d leaf j) (by rw [hbk.len]; exact hlt) (hbk.bkOk hm2) _ c21).ret (n20.perm (B := BkA q.b q.p q.dv bk * (cellA q.o (orC q { x with bk := bk, sta := ⟨x.sta.most, x.sta.size, w.1⟩ } cc) * (SrcA q.s x.src * (PsA q.m x.ps * (StaA q.t ⟨x.sta.most, x.sta.size, (evictL x.d leaf j x.z w.1).2⟩ * (capA cc * emp)))))) (by ac_rfl)) ?_
    intro s27 n27
    obtain ⟨g1, g2, g3⟩ := hbk.write hlt e2 okc
    refine ⟨_, rfl, j, by omega, j, by rw [w64 (by omega)], by omega, rfl, (bk.write (atL x.d leaf j) (codeL (evictL x.d leaf j x.z w.1).1 x.z x.size)).1, ((evictL x.d leaf j x.z w.1).2, updB w.2 (atL x.d leaf j) (evictL x.d leaf j x.z w.1).1), by rw [← hw]; rfl, f3, Nat.le_trans f4 hlw, fun e he => hmw e (f2 e he), ?_, ?_, ?_⟩
    · exact g2.mono (by omega)
    · rw [g3, htr, List.drop_eq_getElem_cons hkl, hat, List.reverse_cons, evW, evW, List.map_append, List.append_assoc]; rfl
    · exact orClose (c := cc) (n27.perm (by unfold orC; ac_rfl))
  · have hkk : k = 0 := by omega
    subst hkk
    have hw' : w = settleL x.d leaf x.z (x.d + 1) (x.sta.l, B) := hw
    rw [← hw']
    rw [List.drop_zero] at htr
    exact (Now.toEx bk (Now.toPand ⟨rfl, by simpa using hbk, htr⟩ n10)).unemp
end Go.Proofs.YtffenelcgjdbiaaGreatDoor
namespace Go.Proofs.YtffenelcgjdbiaaGreatDoor
open Go Go.Sim
set_option maxRecDepth 100000
theorem nodup_le : ∀ (n : Nat) (l : List Nat), l.Nodup → (∀ x ∈ l, x < n) → l.length ≤ n
  | 0, l, _, h => by
    cases l with
    | nil => exact Nat.le_refl _
    | cons a r => have := h a (List.mem_cons_self ..); omega
  | n + 1, l, hn, h => by
    have h1 := nodup_le n (l.erase n) (hn.sublist (List.erase_sublist ..)) fun x hx => by
      have h2 := (List.Nodup.mem_erase_iff hn).1 hx
      have := h x h2.2
      have := h2.1
      omega
    have := List.length_erase (l := l) (a := n)
    split at this <;> omega
structure Os where
  ps : Ps
  l : List Cel
  B : Nat → List Cel
def allC (d : Nat) (y : Os) : List Cel := y.l ++ allB (2 * 2 ^ d - 1) y.B
structure OsOk (d size : Nat) (y : Os) : Prop where
  full : PsFull y.ps
  leaf : ∀ (i : Int) p, psGet y.ps i = some p → p.1 < 2 ^ d
  uid : Uid (allC d y)
  cell : ∀ c ∈ allC d y, CelOk c size ∧ ∃ dr, psGet y.ps c.id = some (c.leaf, dr)
  on : ∀ k < 2 * 2 ^ d - 1, ∀ c ∈ y.B k, k ∈ onL d c.leaf
  there : ∀ (i : Int) p, psGet y.ps i = some p → ∃ c ∈ allC d y, (c.id : Int) = i
def getO (d : Nat) (y : Os) (i : Int) : Option Cel := look (allC d y) i
def Near (d : Nat) (y : Os) (i : Int) : Prop := ∀ c ∈ allB (2 * 2 ^ d - 1) y.B, (c.id : Int) ≠ i
theorem look_perm {l m : List Cel} (h : Uid l) (p : l.Perm m) (i : Int) : look l i = look m i := by
  cases e : look m i with
  | none => exact look_new fun x hx => look_none e x (p.mem_iff.1 hx)
  | some c =>
    obtain ⟨h1, h2⟩ := look_some e
    rw [← h2]
    exact look_mem h (p.mem_iff.2 h1)
theorem look_append (l m : List Cel) (i : Int) : look (l ++ m) i = (look l i).or (look m i) := by unfold look; exact List.find?_append
theorem Uid.left {l m : List Cel} (h : Uid (l ++ m)) : Uid l := by
  unfold Uid at h ⊢
  rw [List.map_append, List.nodup_append] at h
  exact h.1
theorem near_look {d : Nat} {y : Os} {i : Int} (h : Near d y i) : look y.l i = getO d y i := by
  unfold getO allC
  rw [look_append, look_new h, Option.or_none]
theorem psHas_get {l : Ps} {i : Int} {p : Nat × Nat} (h : psGet l i = some p) : psHas l i = true := by
  unfold psGet at h
  split at h
  · rename_i hh; exact hh.1
  · cases h
theorem psHas_set (l : Ps) (i j : Int) (a b : Nat) : psHas (psSet l i a b) j = psHas l j := by unfold psSet; split <;> simp [psHas]
theorem psHas_clear (l : Ps) (i j : Int) : psHas (psClear l i) j = psHas l j := by unfold psClear; split <;> simp [psHas]
theorem psSet_length (l : Ps) (i : Int) (a b : Nat) : (psSet l i a b).length = l.length := by unfold psSet; split <;> simp
theorem psClear_length (l : Ps) (i : Int) : (psClear l i).length = l.length := by unfold psClear; split <;> simp
theorem psAt_set {l : Ps} {i j : Int} {p : Nat × Nat} (hi : psHas l i = true) (hj : psHas l j = true) : (l.set (i - 1).toNat p).getD (j - 1).toNat (0, 0) = if j = i then p else psAt l j := by
  obtain ⟨a, rfl, ha, ha2⟩ := ps_idx hi
  obtain ⟨b, rfl, hb, hb2⟩ := ps_idx hj
  rw [ha2, hb2, List.getD_eq_getElem?_getD, List.getElem?_set]
  by_cases h : a = b
  · subst h; simp [ha]
  · rw [if_neg h, if_neg (by omega), psAt, hb2, List.getD_eq_getElem?_getD]
theorem psGet_set {l : Ps} {i : Int} {a b : Nat} (hi : psHas l i = true) (j : Int) : psGet (psSet l i a b) j = if j = i then some (a, b) else psGet l j := by
  by_cases hj : psHas l j = true
  · have e : psAt (psSet l i a b) j = if j = i then (a + 1, b) else psAt l j := by
      have := psAt_set (p := (a + 1, b)) hi hj
      rw [← this, psAt, psSet, if_pos hi]
    unfold psGet
    rw [psHas_set, e]
    by_cases h : j = i
    · simp only [if_pos h]; rw [if_pos ⟨hj, by omega⟩]; rfl
    · simp only [if_neg h]
  · have hne : j ≠ i := fun e => hj (e ▸ hi)
    unfold psGet
    rw [psHas_set, if_neg hne]
    simp [hj]
theorem psGet_clear {l : Ps} {i : Int} (j : Int) : psGet (psClear l i) j = if j = i then none else psGet l j := by
  by_cases hi : psHas l i = true
  · by_cases hj : psHas l j = true
    · have e : psAt (psClear l i) j = if j = i then (0, 0) else psAt l j := by
        have := psAt_set (p := (0, 0)) hi hj
        rw [← this, psAt, psClear, if_pos hi]
      unfold psGet
      rw [psHas_clear, e]
      by_cases h : j = i
      · simp only [if_pos h]; rw [if_neg (fun h => h.2 rfl)]
      · simp only [if_neg h]
    · have hne : j ≠ i := fun e => hj (e ▸ hi)
      unfold psGet
      rw [psHas_clear, if_neg hne]
      simp [hj]
  · have e : psClear l i = l := by rw [psClear, if_neg hi]
    rw [e]
    by_cases h : j = i
    · rw [if_pos h, h, psGet, if_neg fun h => hi h.1]
    · rw [if_neg h]
theorem PsFull.set {l : Ps} (h : PsFull l) (i : Int) {a b : Nat} (ha : a ≤ 65535) (hb : b < 2 ^ 64) : PsFull (psSet l i a b) := by
  unfold psSet
  split
  · refine ⟨⟨by rw [List.length_set]; exact h.ok.long, fun p hp => ?_⟩, fun p hp => ?_⟩
    · rcases List.mem_or_eq_of_mem_set hp with hp | rfl
      · exact h.ok.leaf p hp
      · exact ⟨by show a + 1 ≤ _; omega, hb⟩
    · rcases List.mem_or_eq_of_mem_set hp with hp | rfl
      · exact h.none p hp
      · intro h0; exact absurd h0 (Nat.succ_ne_zero a)
  · exact h
theorem PsFull.clear {l : Ps} (h : PsFull l) (i : Int) : PsFull (psClear l i) := by
  unfold psClear
  split
  · refine ⟨⟨by rw [List.length_set]; exact h.ok.long, fun p hp => ?_⟩, fun p hp => ?_⟩
    · rcases List.mem_or_eq_of_mem_set hp with hp | rfl
      · exact h.ok.leaf p hp
      · exact ⟨Nat.zero_le _, by decide⟩
    · rcases List.mem_or_eq_of_mem_set hp with hp | rfl
      · exact h.none p hp
      · exact fun _ => rfl
  · exact h
theorem OsOk.short {d size : Nat} {y : Os} (h : OsOk d size y) : (allC d y).length ≤ y.ps.length := by
  have h1 : ((allC d y).map fun c => c.id - 1).length ≤ y.ps.length := by
    have hid : ∀ c ∈ allC d y, 1 ≤ c.id ∧ c.id ≤ y.ps.length := fun c hc => by
      obtain ⟨_, dr, hg⟩ := h.cell c hc
      have := psHas_get hg
      simp only [psHas, decide_eq_true_eq] at this
      omega
    refine nodup_le _ _ ?_ fun x hx => ?_
    · have hu := h.uid
      unfold Uid at hu
      rw [List.Nodup, List.pairwise_map] at hu ⊢
      refine hu.imp_of_mem fun {a b} ha hb hab e => hab ?_
      have := (hid a ha).1
      have := (hid b hb).1
      omega
    · obtain ⟨c, hc, rfl⟩ := List.mem_map.1 hx
      have := hid c hc
      omega
  rwa [List.length_map] at h1
theorem OsOk.celLeaf {d size : Nat} {y : Os} (h : OsOk d size y) {c : Cel} (hc : c ∈ allC d y) : c.leaf < 2 ^ d := by
  obtain ⟨_, dr, hg⟩ := h.cell c hc
  exact h.leaf _ _ hg
theorem OsOk.move {d size : Nat} {y y' : Os} (h : OsOk d size y) (hp : y'.ps = y.ps) (p : (allC d y').Perm (allC d y)) (hon : ∀ k < 2 * 2 ^ d - 1, ∀ c ∈ y'.B k, k ∈ onL d c.leaf) : OsOk d size y' ∧ ∀ i, getO d y' i = getO d y i := by
  have hu := h.uid.perm p.symm
  refine ⟨⟨hp ▸ h.full, hp ▸ h.leaf, hu, fun c hc => by rw [hp]; exact h.cell c (p.mem_iff.1 hc), hon, fun i q hq => ?_⟩, fun i => look_perm hu p i⟩
  rw [hp] at hq
  obtain ⟨c, hc, e⟩ := h.there i q hq
  exact ⟨c, p.mem_iff.2 hc, e⟩
theorem carry_law {d size leaf : Nat} {y : Os} (h : OsOk d size y) (hl : leaf < 2 ^ d) :
    OsOk d size ⟨y.ps, y.l ++ (onL d leaf).flatMap y.B, offB d leaf y.B (d + 1)⟩ ∧ ∀ i, getO d ⟨y.ps, y.l ++ (onL d leaf).flatMap y.B, offB d leaf y.B (d + 1)⟩ i = getO d y i := by
  refine h.move rfl ?_ ?_
  · unfold allC
    dsimp only
    rw [List.append_assoc]
    exact (carry_perm hl y.B (d + 1) (Nat.le_refl _)).symm.append_left _
  · intro k hk c hc
    unfold offB at hc
    dsimp only at hc
    split at hc
    · cases hc
    · exact h.on k hk c hc
theorem carry_near {d size leaf : Nat} {y : Os} (h : OsOk d size y) {i : Int} (hi : ∀ p, psGet y.ps i = some p → p.1 = leaf) : Near d ⟨y.ps, y.l ++ (onL d leaf).flatMap y.B, offB d leaf y.B (d + 1)⟩ i := by
  intro c hc e
  obtain ⟨k, hk, hck⟩ := mem_allB.1 hc
  unfold offB at hck
  dsimp only at hck
  split at hck
  · cases hck
  · rename_i hno
    have hall : c ∈ allC d y := List.mem_append_right _ (mem_allB.2 ⟨k, hk, hck⟩)
    obtain ⟨_, dr, hg⟩ := h.cell c hall
    rw [e] at hg
    have := hi _ hg
    have hon := h.on k hk c hck
    rw [show c.leaf = leaf from this] at hon
    exact hno hon
theorem settle_osok {d size leaf z : Nat} {y : Os} {C : Nat → List Cel} (h : OsOk d size y) (hl : leaf < 2 ^ d) (hC : y.B = offB d leaf C (d + 1)) :
    OsOk d size ⟨y.ps, (settleL d leaf z (d + 1) (y.l, C)).1, (settleL d leaf z (d + 1) (y.l, C)).2⟩ ∧
    ∀ i, getO d ⟨y.ps, (settleL d leaf z (d + 1) (y.l, C)).1, (settleL d leaf z (d + 1) (y.l, C)).2⟩ i = getO d y i := by
  obtain ⟨h1, h2, h3⟩ := settle_law (z := z) hl (d + 1) (y.l, C) (Nat.le_refl _) h.uid.left
  refine h.move rfl ?_ ?_
  · unfold allC
    dsimp only
    rw [hC]; exact h1
  · intro k hk c hc
    by_cases hk2 : k ∈ (List.range (d + 1)).map (atL d leaf)
    · exact (h3 k hk2).2 c hc
    · have e := h2 k hk2
      dsimp only at hc e
      rw [e] at hc
      refine h.on k hk c ?_
      rw [hC, offB, if_neg hk2]; exact hc
theorem replace_law {d size : Nat} {y : Os} (h : OsOk d size y) {c : Cel} (hn : Near d y c.id) (hh : psHas y.ps c.id = true) (hc : CelOk c size) (hl : c.leaf < 2 ^ d) (hd : d ≤ 16) {dr : Nat} (hdr : dr < 2 ^ 64) {l' : List Cel} (hp : l'.Perm (c :: delC y.l c.id)) :
    OsOk d size ⟨psSet y.ps c.id c.leaf dr, l', y.B⟩ ∧ Near d ⟨psSet y.ps c.id c.leaf dr, l', y.B⟩ c.id ∧
    ∀ i, getO d ⟨psSet y.ps c.id c.leaf dr, l', y.B⟩ i = if i = c.id then some c else getO d y i := by
  have hpow : 2 ^ d ≤ 2 ^ 16 := Nat.pow_le_pow_right (by decide) hd
  have hsub : ∀ e ∈ delC y.l c.id, e ∈ y.l ∧ (e.id : Int) ≠ c.id := by
    intro e he
    cases hlk : look y.l c.id with
    | none => rw [delC_none hlk] at he; exact ⟨he, look_none hlk e he⟩
    | some c0 =>
      have p0 := delC_perm hlk
      have hu := (h.uid.left.perm p0.symm).tail
      have := (look_some hlk).2
      exact ⟨p0.mem_iff.1 (List.mem_cons_of_mem _ he), by rw [← this]; exact hu.2 e he⟩
  have hmem : ∀ e ∈ allC d ⟨psSet y.ps c.id c.leaf dr, l', y.B⟩, e = c ∨ (e ∈ allC d y ∧ (e.id : Int) ≠ c.id) := by
    intro e he
    rcases List.mem_append.1 he with he | he
    · rcases List.mem_cons.1 (hp.mem_iff.1 he) with he | he
      · exact .inl he
      · obtain ⟨h1, h2⟩ := hsub e he
        exact .inr ⟨List.mem_append_left _ h1, h2⟩
    · exact .inr ⟨List.mem_append_right _ he, hn e he⟩
  have hmem2 : ∀ e ∈ allC d y, (e.id : Int) ≠ c.id → e ∈ allC d ⟨psSet y.ps c.id c.leaf dr, l', y.B⟩ := by
    intro e he hne
    rcases List.mem_append.1 he with he | he
    · refine List.mem_append_left _ (hp.mem_iff.2 (List.mem_cons_of_mem _ ?_))
      cases hlk : look y.l c.id with
      | none => rw [delC_none hlk]; exact he
      | some c0 =>
        rcases List.mem_cons.1 ((delC_perm hlk).mem_iff.2 he) with e0 | he
        · exfalso; rw [e0] at hne; exact hne (look_some hlk).2
        · exact he
    · exact List.mem_append_right _ he
  have hcm : c ∈ allC d ⟨psSet y.ps c.id c.leaf dr, l', y.B⟩ := List.mem_append_left _ (hp.mem_iff.2 (List.mem_cons_self ..))
  have hu : Uid (allC d ⟨psSet y.ps c.id c.leaf dr, l', y.B⟩) := by
    have hud : Uid (delC y.l c.id ++ allB (2 * 2 ^ d - 1) y.B) := by
      cases hlk : look y.l c.id with
      | none => rw [delC_none hlk]; exact h.uid
      | some c0 =>
        have : Uid ((c0 :: delC y.l c.id) ++ allB (2 * 2 ^ d - 1) y.B) := h.uid.perm ((delC_perm hlk).symm.append_right _)
        exact (Uid.tail this).1
    refine Uid.perm ?_ (hp.symm.append_right (allB (2 * 2 ^ d - 1) y.B))
    show Uid (c :: (delC y.l c.id ++ allB (2 * 2 ^ d - 1) y.B))
    unfold Uid at hud ⊢
    rw [List.map_cons, List.nodup_cons]
    refine ⟨fun hm => ?_, hud⟩
    obtain ⟨e, he, e2⟩ := List.mem_map.1 hm
    rcases List.mem_append.1 he with he | he
    · exact (hsub e he).2 e2
    · exact hn e he e2
  refine ⟨⟨h.full.set _ (by omega) hdr, ?_, hu, ?_, h.on, ?_⟩, hn, ?_⟩
  · intro i p hg
    dsimp only at hg
    rw [psGet_set hh] at hg
    split at hg
    · cases hg; exact hl
    · exact h.leaf i p hg
  · intro e he
    dsimp only
    rcases hmem e he with rfl | ⟨h1, h2⟩
    · exact ⟨hc, dr, by rw [psGet_set hh, if_pos rfl]⟩
    · obtain ⟨k1, dr', k2⟩ := h.cell e h1
      exact ⟨k1, dr', by rw [psGet_set hh, if_neg h2]; exact k2⟩
  · intro i p hg
    dsimp only at hg
    rw [psGet_set hh] at hg
    split at hg
    · rename_i e; exact ⟨c, hcm, e.symm⟩
    · rename_i hne
      obtain ⟨e, he, e2⟩ := h.there i p hg
      exact ⟨e, hmem2 e he (by rw [e2]; exact hne), e2⟩
  · intro i
    by_cases hi : i = c.id
    · rw [if_pos hi, hi]; exact look_mem hu hcm
    · rw [if_neg hi]
      cases hg : getO d y i with
      | none =>
        refine look_new fun e he e2 => ?_
        rcases hmem e he with rfl | ⟨h1, h2⟩
        · exact hi e2.symm
        · exact look_none hg e h1 e2
      | some e =>
        obtain ⟨h1, h2⟩ := look_some hg
        rw [← h2]
        exact look_mem hu (hmem2 e h1 (by rw [h2]; exact hi))
theorem remove_law {d size : Nat} {y : Os} (h : OsOk d size y) {id : Int} (hn : Near d y id) :
    OsOk d size ⟨psClear y.ps id, delC y.l id, y.B⟩ ∧ Near d ⟨psClear y.ps id, delC y.l id, y.B⟩ id ∧
    ∀ i, getO d ⟨psClear y.ps id, delC y.l id, y.B⟩ i = if i = id then none else getO d y i := by
  have hsub : ∀ e ∈ delC y.l id, e ∈ y.l ∧ (e.id : Int) ≠ id := by
    intro e he
    cases hlk : look y.l id with
    | none => rw [delC_none hlk] at he; exact ⟨he, look_none hlk e he⟩
    | some c0 =>
      have p0 := delC_perm hlk
      have hu := (h.uid.left.perm p0.symm).tail
      have := (look_some hlk).2
      exact ⟨p0.mem_iff.1 (List.mem_cons_of_mem _ he), by rw [← this]; exact hu.2 e he⟩
  have hmem : ∀ e ∈ allC d ⟨psClear y.ps id, delC y.l id, y.B⟩, e ∈ allC d y ∧ (e.id : Int) ≠ id := by
    intro e he
    rcases List.mem_append.1 he with he | he
    · obtain ⟨h1, h2⟩ := hsub e he
      exact ⟨List.mem_append_left _ h1, h2⟩
    · exact ⟨List.mem_append_right _ he, hn e he⟩
  have hmem2 : ∀ e ∈ allC d y, (e.id : Int) ≠ id → e ∈ allC d ⟨psClear y.ps id, delC y.l id, y.B⟩ := by
    intro e he hne
    rcases List.mem_append.1 he with he | he
    · refine List.mem_append_left _ ?_
      show e ∈ delC y.l id
      cases hlk : look y.l id with
      | none => rw [delC_none hlk]; exact he
      | some c0 =>
        rcases List.mem_cons.1 ((delC_perm hlk).mem_iff.2 he) with e0 | he
        · exfalso; rw [e0] at hne; exact hne (look_some hlk).2
        · exact he
    · exact List.mem_append_right _ he
  have hu : Uid (allC d ⟨psClear y.ps id, delC y.l id, y.B⟩) := by
    show Uid (delC y.l id ++ allB (2 * 2 ^ d - 1) y.B)
    cases hlk : look y.l id with
    | none => rw [delC_none hlk]; exact h.uid
    | some c0 =>
      have : Uid ((c0 :: delC y.l id) ++ allB (2 * 2 ^ d - 1) y.B) := h.uid.perm ((delC_perm hlk).symm.append_right _)
      exact (Uid.tail this).1
  refine ⟨⟨h.full.clear _, ?_, hu, ?_, h.on, ?_⟩, hn, ?_⟩
  · intro i p hg
    dsimp only at hg
    rw [psGet_clear] at hg
    split at hg
    · cases hg
    · exact h.leaf i p hg
  · intro e he
    dsimp only
    obtain ⟨h1, h2⟩ := hmem e he
    obtain ⟨k1, dr', k2⟩ := h.cell e h1
    exact ⟨k1, dr', by rw [psGet_clear, if_neg h2]; exact k2⟩
  · intro i p hg
    dsimp only at hg
    rw [psGet_clear] at hg
    split at hg
    · cases hg
    · rename_i hne
      obtain ⟨e, he, e2⟩ := h.there i p hg
      exact ⟨e, hmem2 e he (by rw [e2]; exact hne), e2⟩
  · intro i
    by_cases hi : i = id
    · rw [if_pos hi]
      exact look_new fun e he e2 => (hmem e he).2 (e2.trans hi)
    · rw [if_neg hi]
      cases hg : getO d y i with
      | none => exact look_new fun e he e2 => look_none hg e (hmem e he).1 e2
      | some e =>
        obtain ⟨h1, h2⟩ := look_some hg
        rw [← h2]
        exact look_mem hu (hmem2 e h1 (by rw [h2]; exact hi))
theorem putC_perm (l : List Cel) (c : Cel) : (putC l c).Perm (c :: delC l c.id) := by
  induction l with
  | nil => exact .refl _
  | cons x r ih =>
    rw [putC, delC]
    by_cases h : c.id = x.id
    · rw [if_pos h, if_pos (by omega)]
    · rw [if_neg h, if_neg (by omega)]
      exact (ih.cons x).trans (.swap ..)
structure DrOk (ps : Ps) (shown : List Nat) (used : Nat) : Prop where
  kept : ∀ (i : Int) p, psGet ps i = some p → p.2 < used ∧ p.2 ∉ shown
  one : ∀ (i j : Int) p q, psGet ps i = some p → psGet ps j = some q → p.2 = q.2 → i = j
  nodup : shown.Nodup
  lt : ∀ a ∈ shown, a < used
theorem draw_law {ps ps' : Ps} {shown : List Nat} {used sh : Nat} {id : Int} (h : DrOk ps shown used) (hsh : sh = (match psGet ps id with | some p => p.2 | none => used))
    (hne : ∀ i, i ≠ id → psGet ps' i = psGet ps i) (hid : ∀ p, psGet ps' id = some p → p.2 = used + 1) : DrOk ps' (shown ++ [sh]) (used + 2) := by
  have hs1 : sh ≤ used ∧ sh ∉ shown := by
    cases e : psGet ps id with
    | none => rw [e] at hsh; subst hsh; exact ⟨Nat.le_refl _, fun hm => absurd (h.lt _ hm) (Nat.lt_irrefl _)⟩
    | some p => rw [e] at hsh; subst hsh; have := h.kept id p e; exact ⟨Nat.le_of_lt this.1, this.2⟩
  have hs2 : ∀ i p, i ≠ id → psGet ps i = some p → p.2 ≠ sh := by
    intro i p hi hp e2
    cases e : psGet ps id with
    | none => rw [e] at hsh; dsimp only at hsh; have := (h.kept i p hp).1; omega
    | some q => rw [e] at hsh; dsimp only at hsh; exact hi (h.one i id p q hp e (by omega))
  refine ⟨?_, ?_, ?_, ?_⟩
  · intro i p hp
    by_cases hi : i = id
    · subst hi
      have := hid p hp
      refine ⟨by omega, fun hm => ?_⟩
      rcases List.mem_append.1 hm with hm | hm
      · have := h.lt _ hm; omega
      · rw [List.mem_singleton] at hm; omega
    · rw [hne i hi] at hp
      have h1 := h.kept i p hp
      refine ⟨by omega, fun hm => ?_⟩
      rcases List.mem_append.1 hm with hm | hm
      · exact h1.2 hm
      · rw [List.mem_singleton] at hm; exact hs2 i p hi hp hm
  · intro i j p q hp hq e
    by_cases hi : i = id
    · by_cases hj : j = id
      · rw [hi, hj]
      · rw [hne j hj] at hq
        have := (h.kept j q hq).1
        rw [hi] at hp
        have := hid p hp
        omega
    · by_cases hj : j = id
      · rw [hne i hi] at hp
        have := (h.kept i p hp).1
        rw [hj] at hq
        have := hid q hq
        omega
      · rw [hne i hi] at hp
        rw [hne j hj] at hq
        exact h.one i j p q hp hq e
  · rw [List.nodup_append]
    refine ⟨h.nodup, by simp, fun a ha b hb => ?_⟩
    rw [List.mem_singleton] at hb
    subst hb
    intro e
    subst e
    exact hs1.2 ha
  · intro a ha
    rcases List.mem_append.1 ha with ha | ha
    · have := h.lt a ha; omega
    · rw [List.mem_singleton] at ha; omega
end Go.Proofs.YtffenelcgjdbiaaGreatDoor
namespace Go.Proofs.YtffenelcgjdbiaaGreatDoor
open Go Go.Sim
set_option maxRecDepth 100000
structure Og where
  d : Nat
  z : Nat
  size : Nat
  ids : Nat
  m : Nat
  used : Nat
  tape : List Nat
  dat : Int → Option (List UInt8)
  shown : List Nat
  tr : List (Int × Int)
  pd : Int → Option Nat
structure Inv (g : Og) (x : Om) (B : Nat → List Cel) : Prop where
  d : x.d = g.d
  z : x.z = g.z
  size : x.size = g.size
  src : x.src = ⟨g.tape, g.used⟩
  most : x.sta.most = g.ids
  ssz : x.sta.size = g.size
  shown : x.shown = g.shown
  bk : BkR x.bk g.m (2 * 2 ^ g.d - 1) g.z g.size B
  tr : x.bk.tr = g.tr
  os : OsOk g.d g.size ⟨x.ps, x.sta.l, B⟩
  long : x.ps.length = g.ids
  dr : DrOk x.ps g.shown g.used
  dat : ∀ i, (getO g.d ⟨x.ps, x.sta.l, B⟩ i).map (·.data) = g.dat i
  pd : ∀ i, (psGet x.ps i).map (·.2) = g.pd i
structure GOk (g : Og) : Prop where
  d : g.d ≤ 16
  z : g.z ≤ 16
  size : g.size ≤ 60000
  ids : g.ids ≤ 10000
  m : g.m ≤ 2 ^ 38
  used : g.used ≤ 2 ^ 38
  word : ∀ n ∈ g.tape, n < 2 ^ 32
  tape : g.tape.length ≤ 2 ^ 40
  shown : g.shown.length ≤ 2 ^ 38
def OrS (q : Oq) (g : Og) : Asn := ex fun w : Om × (Nat → List Cel) => pand (Inv g w.1 w.2) (OrA q w.1)
def Og.accP (g : Og) (dat : Int → Option (List UInt8)) (id : Int) : Int → Option Nat := fun i => if i = id then (dat id).map fun _ => g.used + 1 else g.pd i
def Og.acc (g : Og) (dat : Int → Option (List UInt8)) (id : Int) (leaf : Nat) : Og :=
  { g with m := g.m + 2 * (g.d + 1), used := g.used + 2, dat := dat, shown := g.shown ++ [(g.pd id).getD g.used], tr := g.tr ++ (evR (onL g.d leaf) ++ evW (onL g.d leaf).reverse), pd := g.accP dat id }
structure Mid (g : Og) (dat : Int → Option (List UInt8)) (id : Int) (ps : Ps) (sta : Sta) (B : Nat → List Cel) : Prop where
  most : sta.most = g.ids
  ssz : sta.size = g.size
  os : OsOk g.d g.size ⟨ps, sta.l, B⟩
  near : Near g.d ⟨ps, sta.l, B⟩ id
  long : ps.length = g.ids
  dat : ∀ i, (getO g.d ⟨ps, sta.l, B⟩ i).map (·.data) = dat i
theorem staOk_of {d size ids : Nat} {ps : Ps} {l : List Cel} {B : Nat → List Cel} (h : OsOk d size ⟨ps, l, B⟩) (hl : ps.length = ids) (hi : ids ≤ 10000) (hs : size ≤ 60000) : StaOk ⟨ids, size, l⟩ :=
  ⟨hi, hs, fun c hc => (h.cell c (List.mem_append_left _ hc)).1, by
    have := h.short
    unfold allC at this
    rw [List.length_append] at this
    show l.length ≤ ids
    dsimp only at this
    omega⟩
def orK (q : Oq) (d z size : Nat) (shown : List Nat) (c : Cap) : List V := [.ptr q.b 0, .ptr q.s 0, .int .i64 (2 ^ d : Nat), .int .i64 z, .int .i64 size, .ptr q.m 0, .ptr q.t 0, .lst 1 (U64s shown) c]
def posC (leaf dr : Nat) : List V := [.int .i64 leaf, .int .u64 dr]
theorem access_spec {q : Oq} {g : Og} (gok : GOk g) (id : Int) {f3 : Nat} {f3c : List V} {D D' : Asn} {ok : Bool} {dat' : Int → Option (List UInt8)} (hcall : callOk Tryz.prog f3 = true)
    (hdo : ∀ (x : Om) (B : Nat → List Cel), x.size = g.size → Mid g g.dat id x.ps x.sta B → Does Tryz.prog f3 f3c (OrA q x * D) fun r => ex fun w : Ps × Sta => pand (r = .ret (.bool ok) ∧ Mid g dat' id w.1 w.2 B ∧ ∀ i, i ≠ id → psGet w.1 i = psGet x.ps i) (OrA q { x with ps := w.1, sta := w.2 } * D')) :
    Does Tryz.prog F_oram_Oram_access [.ptr q.o 0, .int .i64 id, .fn f3 f3c] (OrS q g * D) fun r => ex fun w : Nat => pand (r = .ret (.bool ok) ∧ w < 2 ^ g.d) (OrS q (g.acc dat' id w) * D') := by
  intro st I h
  obtain ⟨⟨⟨xd, xz, xs, bk, src, ps, ⟨sm, ss, sl⟩, shown⟩, B⟩, n0⟩ := (Now.init h).ex
  obtain ⟨inv, n0⟩ := n0.pand
  obtain ⟨h1, h2, h3, hsrc, hmost, hssz, hshown, hbk, htr, hos, hlong, hdr, hdat, hpd⟩ := inv
  dsimp only at h1 h2 h3 hsrc hmost hssz hshown hbk htr hos hlong hdr hdat hpd n0
  subst h1 h2 h3 hsrc hmost hssz hshown
  obtain ⟨gd, gz, gsz, gids, gm, gu, gt, gword, gtl, gsh⟩ : g.d ≤ 16 ∧ g.z ≤ 16 ∧ g.size ≤ 60000 ∧ g.ids ≤ 10000 ∧ g.m ≤ 2 ^ 38 ∧ g.used ≤ 2 ^ 38 ∧ True ∧ (∀ n ∈ g.tape, n < 2 ^ 32) ∧ g.tape.length ≤ 2 ^ 40 ∧ g.shown.length ≤ 2 ^ 38 :=
    ⟨gok.d, gok.z, gok.size, gok.ids, gok.m, gok.used, trivial, gok.word, gok.tape, gok.shown⟩
  have sok : ∀ u, u ≤ 2 ^ 40 → SrcOk ⟨g.tape, u⟩ := fun u hu => ⟨hu, gtl, gword⟩
  have hpow : 2 ^ g.d ≤ 2 ^ 16 := Nat.pow_le_pow_right (by decide) gd
  obtain ⟨c, n1⟩ := orOpen n0
  have n1 : Now st I (cellA q.o (orK q g.d g.z g.size g.shown c) * (BkA q.b q.p q.dv bk * (SrcA q.s ⟨g.tape, g.used⟩ * (PsA q.m ps * (StaA q.t ⟨g.ids, g.size, sl⟩ * (capA c * D)))))) st := n1
  obtain ⟨K, hK⟩ : ∃ K, K = BkA q.b q.p q.dv bk * (StaA q.t ⟨g.ids, g.size, sl⟩ * D) := ⟨_, rfl⟩
  have n2 : Now st I (SrcA q.s ⟨g.tape, g.used⟩ * (cellA q.o (orK q g.d g.z g.size g.shown c) * (PsA q.m ps * (capA c * K)))) st := n1.perm (by rw [hK]; ac_rfl)
  refine w_oram_Oram_access ⟨_, ldv1 n1.cells rfl, _, ldv1 n1.cells rfl, _, ldv1 n1.cells rfl, ?_⟩
  refine Used_spec.ret n2 ?_
  intro s8 n8
  have n8' := n8.perm (B := cellA q.o (orK q g.d g.z g.size g.shown c) * (SrcA q.s ⟨g.tape, g.used⟩ * (PsA q.m ps * (capA c * K)))) (by ac_rfl)
  refine ⟨_, rfl, ldv1 n8'.cells rfl, ldv1 n8'.cells rfl, ?_⟩
  refine (Next_spec gd (sok _ (by omega))).ret n8 ?_
  intro s11 n11
  have hl1 : (Src.mk g.tape g.used).draw g.d < 2 ^ g.d := Nat.mod_lt _ (Nat.two_pow_pos _)
  generalize (Src.mk g.tape g.used).draw g.d = leaf1 at hl1 ⊢
  refine ⟨_, rfl, ?_⟩
  intro s13 h13
  have n13 := n11.newC [.int .i64 0, .int .u64 0]
  rw [← h13] at n13
  refine ⟨rfl, rfl, _, n13.cells, by decide, ?_⟩
  rw [repl_two']
  intro s15 h15
  have n15 := n13.set (posC leaf1 g.used)
  rw [show s13.setC s11.next (posC leaf1 g.used) = s15 from h15.symm] at n15
  have n15' := n15.perm (B := cellA q.o (orK q g.d g.z g.size g.shown c) * (SrcA q.s ⟨g.tape, g.used + 1⟩ * (cellA s11.next (posC leaf1 g.used) * (PsA q.m ps * (capA c * K))))) (by ac_rfl)
  refine ⟨_, ldv1 n15'.cells rfl, _, ldv1 n15'.cells rfl, _, ldv1 n15'.cells rfl, ?_⟩
  refine Used_spec.ret (n15.perm (B := SrcA q.s ⟨g.tape, g.used + 1⟩ * (cellA q.o (orK q g.d g.z g.size g.shown c) * (cellA s11.next (posC leaf1 g.used) * (PsA q.m ps * (capA c * K))))) (by ac_rfl)) ?_
  intro s20 n20
  have n20' := n20.perm (B := cellA q.o (orK q g.d g.z g.size g.shown c) * (SrcA q.s ⟨g.tape, g.used + 1⟩ * (cellA s11.next (posC leaf1 g.used) * (PsA q.m ps * (capA c * K))))) (by ac_rfl)
  refine ⟨_, rfl, ldv1 n20'.cells rfl, ldv1 n20'.cells rfl, ?_⟩
  refine (Next_spec gd (sok _ (by omega))).ret n20 ?_
  intro s23 n23
  have hl2 : (Src.mk g.tape (g.used + 1)).draw g.d < 2 ^ g.d := Nat.mod_lt _ (Nat.two_pow_pos _)
  generalize (Src.mk g.tape (g.used + 1)).draw g.d = leaf2 at hl2 ⊢
  refine ⟨_, rfl, ?_⟩
  intro s25 h25
  have n25 := n23.newC [.int .i64 0, .int .u64 0]
  rw [← h25] at n25
  refine ⟨rfl, rfl, _, n25.cells, by decide, ?_⟩
  rw [repl_two']
  intro s27 h27
  have n27 := n25.set (posC leaf2 (g.used + 1))
  rw [show s25.setC s23.next (posC leaf2 (g.used + 1)) = s27 from h27.symm] at n27
  have n27' := n27.perm (B := cellA q.o (orK q g.d g.z g.size g.shown c) * (PsA q.m ps * (cellA s23.next (posC leaf2 (g.used + 1)) * (cellA s11.next (posC leaf1 g.used) * (SrcA q.s ⟨g.tape, g.used + 2⟩ * (capA c * K)))))) (by ac_rfl)
  refine ⟨_, ldv1 n27'.cells rfl, ?_⟩
  refine (PsGet_spec id hos.full.ok).ret (n27.perm (B := PsA q.m ps * (cellA q.o (orK q g.d g.z g.size g.shown c) * (cellA s23.next (posC leaf2 (g.used + 1)) * (cellA s11.next (posC leaf1 g.used) * (SrcA q.s ⟨g.tape, g.used + 2⟩ * (capA c * K)))))) (by ac_rfl)) ?_
  intro s30 n30
  refine ⟨_, _, _, rfl, ?_⟩
  intro s34 h34
  have n34 := n30.newC [.int .i64 0, .int .u64 0]
  rw [← h34] at n34
  refine ⟨rfl, rfl, _, n34.cells, by decide, ?_⟩
  rw [repl_two']
  intro s36 h36
  have n36 := n34.set (posC ((psGet ps id).getD (0, 0)).1 ((psGet ps id).getD (0, 0)).2)
  rw [show s34.setC s30.next (posC ((psGet ps id).getD (0, 0)).1 ((psGet ps id).getD (0, 0)).2) = s36 from h36.symm] at n36
  intro K41 h41
  have main : ∀ (s42 : St) (leaf sh : Nat), leaf < 2 ^ g.d → sh = (match psGet ps id with | some p => p.2 | none => g.used) → (∀ p, psGet ps id = some p → p.1 = leaf) →
      Now st I (cellA s30.next (posC leaf sh) * (PsA q.m ps * (cellA q.o (orK q g.d g.z g.size g.shown c) * (cellA s23.next (posC leaf2 (g.used + 1)) * (cellA s11.next (posC leaf1 g.used) * (SrcA q.s ⟨g.tape, g.used + 2⟩ * (capA c * K))))))) s42 → K41 s42 := by
    intro s42 leaf sh hleaf hsh hpl n42
    refine h41 _ ?_
    have m42 := n42.perm (B := cellA q.o (orK q g.d g.z g.size g.shown c) * (cellA s30.next (posC leaf sh) * (PsA q.m ps * (cellA s23.next (posC leaf2 (g.used + 1)) * (cellA s11.next (posC leaf1 g.used) * (SrcA q.s ⟨g.tape, g.used + 2⟩ * (capA c * K))))))) (by ac_rfl)
    have l42 := n42.perm (B := capA c * (cellA q.o (orK q g.d g.z g.size g.shown c) * (cellA s30.next (posC leaf sh) * (PsA q.m ps * (cellA s23.next (posC leaf2 (g.used + 1)) * (cellA s11.next (posC leaf1 g.used) * (SrcA q.s ⟨g.tape, g.used + 2⟩ * K))))))) (by ac_rfl)
    have hul : (U64s g.shown).length = g.shown.length := by simp [U64s]
    refine ⟨_, _, ldv1 m42.cells rfl, _, ldv1 n42.cells rfl, ⟨l42.can, by rw [hul]; omega⟩, ?_⟩
    intro c45 s46 ha
    have n46 := (l42.app ha).perm (B := cellA q.o (orK q g.d g.z g.size g.shown c) * (cellA s30.next (posC leaf sh) * (PsA q.m ps * (cellA s23.next (posC leaf2 (g.used + 1)) * (cellA s11.next (posC leaf1 g.used) * (SrcA q.s ⟨g.tape, g.used + 2⟩ * (capA c45 * K))))))) (by ac_rfl)
    refine ⟨_, n46.cells, by simp [orK], ?_⟩
    intro s48 h48
    have n48 := n46.set (orK q g.d g.z g.size (g.shown ++ [sh]) c45)
    have eset : (orK q g.d g.z g.size g.shown c).set 7 (.lst 1 (U64s g.shown ++ [.int .u64 sh]) c45) = orK q g.d g.z g.size (g.shown ++ [sh]) c45 := by
      unfold orK U64s; rw [List.map_append]; rfl
    rw [eset] at h48
    rw [← h48] at n48
    have m48 := n48.perm (B := cellA s30.next (posC leaf sh) * (cellA q.o (orK q g.d g.z g.size (g.shown ++ [sh]) c45) * (PsA q.m ps * (cellA s23.next (posC leaf2 (g.used + 1)) * (cellA s11.next (posC leaf1 g.used) * (SrcA q.s ⟨g.tape, g.used + 2⟩ * (capA c45 * K))))))) (by ac_rfl)
    refine ⟨_, ldv1 m48.cells rfl, ?_⟩
    have n49 : Now st I (OrA q ⟨g.d, g.z, g.size, bk, ⟨g.tape, g.used + 2⟩, ps, ⟨g.ids, g.size, sl⟩, g.shown ++ [sh]⟩ * (D * (cellA s30.next (posC leaf sh) * (cellA s23.next (posC leaf2 (g.used + 1)) * cellA s11.next (posC leaf1 g.used))))) s48 :=
      orClose (c := c45) (m48.perm (by rw [hK]; show _ = cellA q.o (orK q g.d g.z g.size (g.shown ++ [sh]) c45) * _; ac_rfl))
    have so0 : StaOk ⟨g.ids, g.size, sl⟩ := staOk_of hos hlong gids gsz
    have hall : ∀ e ∈ (onL g.d leaf).flatMap B, (psGet ps e.id).isSome = true := fun e he => by
      obtain ⟨k, hk, hek⟩ := List.mem_flatMap.1 he
      obtain ⟨j, hj, rfl⟩ := List.mem_map.1 hk
      rw [List.mem_range] at hj
      obtain ⟨_, dr, hg⟩ := hos.cell e (List.mem_append_right _ (mem_allB.2 ⟨_, atL_lt hleaf (show j ≤ g.d by omega), hek⟩))
      rw [hg]; rfl
    refine (carry_spec (x := ⟨g.d, g.z, g.size, bk, ⟨g.tape, g.used + 2⟩, ps, ⟨g.ids, g.size, sl⟩, g.shown ++ [sh]⟩) gd hleaf gz hbk (by omega) hos.full.ok so0 rfl hall).call n49 ?_
    intro r50 s51 n51a
    obtain ⟨bk1, n51b⟩ := n51a.ex
    obtain ⟨⟨rfl, hbk1, htr1⟩, n51⟩ := n51b.pand
    obtain ⟨k1, k2⟩ := carry_law hos hleaf
    have hshort := k1.short
    have hputs : staPuts ⟨g.ids, g.size, sl⟩ ((onL g.d leaf).flatMap B) = ⟨g.ids, g.size, sl ++ (onL g.d leaf).flatMap B⟩ := by
      refine puts_new (fun e he => ?_) k1.uid.left ?_
      · exact (k1.cell e (List.mem_append_left _ (List.mem_append_right _ he))).1
      · unfold allC at hshort
        simp only [List.length_append] at hshort ⊢
        omega
    dsimp only at n51 hbk1 htr1
    rw [hputs] at n51
    have mid1 : Mid g g.dat id ps ⟨g.ids, g.size, sl ++ (onL g.d leaf).flatMap B⟩ (offB g.d leaf B (g.d + 1)) :=
      ⟨rfl, rfl, k1, carry_near hos hpl, hlong, fun i => by dsimp only; rw [k2]; exact hdat i⟩
    refine ⟨rfl, hcall, ?_⟩
    refine (hdo ⟨g.d, g.z, g.size, bk1, ⟨g.tape, g.used + 2⟩, ps, ⟨g.ids, g.size, sl ++ (onL g.d leaf).flatMap B⟩, g.shown ++ [sh]⟩ _ rfl mid1).call (n51.perm (B := (OrA q ⟨g.d, g.z, g.size, bk1, ⟨g.tape, g.used + 2⟩, ps, ⟨g.ids, g.size, sl ++ (onL g.d leaf).flatMap B⟩, g.shown ++ [sh]⟩ * D) * (cellA s30.next (posC leaf sh) * (cellA s23.next (posC leaf2 (g.used + 1)) * cellA s11.next (posC leaf1 g.used)))) (by ac_rfl)) ?_
    intro r52 s53 n53a
    obtain ⟨⟨ps2, sm2, ss2, sl2⟩, n53b⟩ := n53a.ex
    obtain ⟨⟨rfl, mid2, hsame⟩, n53⟩ := n53b.pand
    obtain ⟨hm2, hz2, hos2, hnear2, hlong2, hdat2⟩ := mid2
    dsimp only at hm2 hz2 hos2 hnear2 hlong2 hdat2 hsame n53
    subst hm2 hz2
    refine ⟨_, rfl, ?_⟩
    intro K81 h81
    have fin : ∀ (s82 : St) (ps3 : Ps) (l3 : List Cel), OsOk g.d g.size ⟨ps3, l3, offB g.d leaf B (g.d + 1)⟩ → (∀ i, (getO g.d ⟨ps3, l3, offB g.d leaf B (g.d + 1)⟩ i).map (·.data) = dat' i) → ps3.length = g.ids →
        DrOk ps3 (g.shown ++ [sh]) (g.used + 2) → (∀ i, (psGet ps3 i).map (·.2) = g.accP dat' id i) →
        Now st I (OrA q ⟨g.d, g.z, g.size, bk1, ⟨g.tape, g.used + 2⟩, ps3, ⟨g.ids, g.size, l3⟩, g.shown ++ [sh]⟩ * (D' * (cellA s30.next (posC leaf sh) * (cellA s23.next (posC leaf2 (g.used + 1)) * cellA s11.next (posC leaf1 g.used))))) s82 → K81 s82 := by
      intro s82 ps3 l3 hos3 hdat3 hlong3 hdr3 hpd3 n82
      refine h81 _ ?_
      have m82 := n82.perm (B := cellA s30.next (posC leaf sh) * (OrA q ⟨g.d, g.z, g.size, bk1, ⟨g.tape, g.used + 2⟩, ps3, ⟨g.ids, g.size, l3⟩, g.shown ++ [sh]⟩ * (D' * (cellA s23.next (posC leaf2 (g.used + 1)) * cellA s11.next (posC leaf1 g.used))))) (by ac_rfl)
      refine ⟨_, ldv1 m82.cells rfl, ?_⟩
      refine (settle_spec (x := ⟨g.d, g.z, g.size, bk1, ⟨g.tape, g.used + 2⟩, ps3, ⟨g.ids, g.size, l3⟩, g.shown ++ [sh]⟩) gd hleaf gz hbk1 (by omega) (staOk_of hos3 hlong3 gids gsz) rfl hos3.uid.left (fun e he => hos3.celLeaf (List.mem_append_left _ he))).call n82 ?_
      intro r84 s85 n85a
      obtain ⟨bk2, n85b⟩ := n85a.ex
      obtain ⟨⟨rfl, hbk2, htr2⟩, n85⟩ := n85b.pand
      dsimp only at hbk2 htr2 n85
      obtain ⟨j1, j2⟩ := settle_osok (z := g.z) (C := B) hos3 hleaf rfl
      refine ⟨rfl, ?_⟩
      have e5 : g.m + (g.d + 1) + (g.d + 1) = g.m + 2 * (g.d + 1) := by omega
      rw [e5] at hbk2
      have n86 := (n85.perm (B := cellA s30.next (posC leaf sh) * (cellA s23.next (posC leaf2 (g.used + 1)) * (cellA s11.next (posC leaf1 g.used) * (OrA q ⟨g.d, g.z, g.size, bk2, ⟨g.tape, g.used + 2⟩, ps3, ⟨g.ids, g.size, (settleL g.d leaf g.z (g.d + 1) (l3, B)).1⟩, g.shown ++ [sh]⟩ * D')))) (by ac_rfl)).drop.drop.drop
      have hsh2 : sh = (g.pd id).getD g.used := by rw [hsh, ← hpd id]; cases psGet ps id <;> rfl
      refine (Now.toEx leaf (Now.toPand ⟨rfl, hleaf⟩ (R := emp) ?_)).unemp
      refine Now.emp (Now.toEx (⟨g.d, g.z, g.size, bk2, ⟨g.tape, g.used + 2⟩, ps3, ⟨g.ids, g.size, (settleL g.d leaf g.z (g.d + 1) (l3, B)).1⟩, g.shown ++ [sh]⟩, (settleL g.d leaf g.z (g.d + 1) (l3, B)).2) (Now.toPand ?_ n86))
      refine ⟨rfl, rfl, rfl, rfl, rfl, rfl, by rw [hsh2]; rfl, hbk2, ?_, j1, hlong3, by rw [hsh2] at hdr3; exact hdr3, fun i => (congrArg (Option.map Cel.data) (j2 i)).trans (hdat3 i), hpd3⟩
      show bk2.tr = g.tr ++ _
      rw [htr2, htr1, htr, List.append_assoc]
    obtain ⟨c2, n54⟩ := orOpen (n53.perm (B := OrA q ⟨g.d, g.z, g.size, bk1, ⟨g.tape, g.used + 2⟩, ps2, ⟨g.ids, g.size, sl2⟩, g.shown ++ [sh]⟩ * (D' * (cellA s30.next (posC leaf sh) * (cellA s23.next (posC leaf2 (g.used + 1)) * cellA s11.next (posC leaf1 g.used))))) (by ac_rfl))
    have n54 : Now st I (cellA q.o (orK q g.d g.z g.size (g.shown ++ [sh]) c2) * (BkA q.b q.p q.dv bk1 * (SrcA q.s ⟨g.tape, g.used + 2⟩ * (PsA q.m ps2 * (StaA q.t ⟨g.ids, g.size, sl2⟩ * (capA c2 * (D' * (cellA s30.next (posC leaf sh) * (cellA s23.next (posC leaf2 (g.used + 1)) * cellA s11.next (posC leaf1 g.used)))))))))) s53 := n54
    obtain ⟨M, hM⟩ : ∃ M, M = BkA q.b q.p q.dv bk1 * (SrcA q.s ⟨g.tape, g.used + 2⟩ * (capA c2 * (D' * (cellA s30.next (posC leaf sh) * cellA s11.next (posC leaf1 g.used))))) := ⟨_, rfl⟩
    refine ⟨_, ldv1 n54.cells rfl, ?_⟩
    refine (StTake_spec id).retEx (n54.perm (B := StaA q.t ⟨g.ids, g.size, sl2⟩ * (cellA q.o (orK q g.d g.z g.size (g.shown ++ [sh]) c2) * (PsA q.m ps2 * (cellA s23.next (posC leaf2 (g.used + 1)) * M)))) (by rw [hM]; ac_rfl)) ?_
    intro c60 s57 n57
    dsimp only at n57
    refine ⟨_, _, _, _, _, rfl, ?_⟩
    intro s62 h62
    have n62 := n57.newC [.int .i64 0, .int .i64 0, .lst 1 [] .nil]
    rw [← h62] at n62
    refine ⟨rfl, rfl, _, n62.cells, by decide, ?_⟩
    rw [repl_three]
    intro s64 h64
    have n64 := n62.set ((celOr sl2 id).cs c60)
    rw [show s62.setC s57.next ((celOr sl2 id).cs c60) = s64 from h64.symm] at n64
    cases hlk : look sl2 id with
    | none =>
      refine ⟨fun h => (by cases h), fun _ => ?_⟩
      have hgn : getO g.d ⟨ps2, sl2, offB g.d leaf B (g.d + 1)⟩ id = none := by rw [← near_look hnear2]; exact hlk
      have hpn : psGet ps2 id = none := by
        cases e : psGet ps2 id with
        | none => rfl
        | some p =>
          obtain ⟨e1, he1, he2⟩ := hos2.there id p e
          exact absurd he2 (look_none hgn e1 he1)
      refine fin s64 ps2 sl2 hos2 hdat2 hlong2 (draw_law hdr hsh hsame fun p hp => by rw [hpn] at hp; cases hp) (fun i => ?_) ?_
      · unfold Og.accP
        by_cases hi : i = id
        · rw [if_pos hi, hi, hpn, ← hdat2 id, hgn]; rfl
        · rw [if_neg hi, hsame i hi]; exact hpd i
      · rw [delC_none hlk] at n64
        refine orClose (c := c2) ((n64.drop).perm ?_)
        rw [hM]
        show _ = cellA q.o (orK q g.d g.z g.size (g.shown ++ [sh]) c2) * _
        ac_rfl
    | some c0 =>
      refine ⟨fun _ => ?_, fun h => (by cases h)⟩
      have hc0 : celOr sl2 id = c0 := by rw [celOr, hlk]; rfl
      rw [hc0] at n64
      obtain ⟨hmem0, hid0⟩ := look_some hlk
      obtain ⟨hcel0, dr0, hg0⟩ := hos2.cell c0 (List.mem_append_left _ hmem0)
      have hhas : psHas ps2 id = true := by rw [← hid0]; exact psHas_get hg0
      have m64 := n64.perm (B := cellA s23.next (posC leaf2 (g.used + 1)) * (cellA s57.next (c0.cs c60) * (StaA q.t ⟨g.ids, g.size, delC sl2 id⟩ * (cellA q.o (orK q g.d g.z g.size (g.shown ++ [sh]) c2) * (PsA q.m ps2 * M))))) (by ac_rfl)
      refine ⟨_, ldv1 m64.cells rfl, _, n64.cells, by simp [Cel.cs], ?_⟩
      intro s67 h67
      have n67 := m64.perm (B := cellA s57.next (c0.cs c60) * (cellA s23.next (posC leaf2 (g.used + 1)) * (StaA q.t ⟨g.ids, g.size, delC sl2 id⟩ * (cellA q.o (orK q g.d g.z g.size (g.shown ++ [sh]) c2) * (PsA q.m ps2 * M))))) (by ac_rfl) |>.set ((Cel.mk c0.id leaf2 c0.data).cs c60)
      rw [show s64.setC s57.next ((Cel.mk c0.id leaf2 c0.data).cs c60) = s67 from h67.symm] at n67
      have m67 := n67.perm (B := cellA q.o (orK q g.d g.z g.size (g.shown ++ [sh]) c2) * (cellA s57.next ((Cel.mk c0.id leaf2 c0.data).cs c60) * (cellA s23.next (posC leaf2 (g.used + 1)) * (StaA q.t ⟨g.ids, g.size, delC sl2 id⟩ * (PsA q.m ps2 * M))))) (by ac_rfl)
      have l67 := n67.perm (B := cellA s23.next (posC leaf2 (g.used + 1)) * (cellA q.o (orK q g.d g.z g.size (g.shown ++ [sh]) c2) * (cellA s57.next ((Cel.mk c0.id leaf2 c0.data).cs c60) * (StaA q.t ⟨g.ids, g.size, delC sl2 id⟩ * (PsA q.m ps2 * M))))) (by ac_rfl)
      refine ⟨_, ldv1 m67.cells rfl, _, _, ldvg l67.cells rfl, ?_⟩
      refine (PsSet_spec id leaf2 (g.used + 1) (by omega) (by omega)).ret (n67.perm (B := PsA q.m ps2 * (cellA q.o (orK q g.d g.z g.size (g.shown ++ [sh]) c2) * (cellA s57.next ((Cel.mk c0.id leaf2 c0.data).cs c60) * (StaA q.t ⟨g.ids, g.size, delC sl2 id⟩ * (cellA s23.next (posC leaf2 (g.used + 1)) * M))))) (by ac_rfl)) ?_
      intro s72 n72
      have m72 := n72.perm (B := cellA q.o (orK q g.d g.z g.size (g.shown ++ [sh]) c2) * (PsA q.m (psSet ps2 id leaf2 (g.used + 1)) * (cellA s57.next ((Cel.mk c0.id leaf2 c0.data).cs c60) * (StaA q.t ⟨g.ids, g.size, delC sl2 id⟩ * (cellA s23.next (posC leaf2 (g.used + 1)) * M))))) (by ac_rfl)
      have l72 := n72.perm (B := cellA s57.next ((Cel.mk c0.id leaf2 c0.data).cs c60) * (cellA q.o (orK q g.d g.z g.size (g.shown ++ [sh]) c2) * (PsA q.m (psSet ps2 id leaf2 (g.used + 1)) * (StaA q.t ⟨g.ids, g.size, delC sl2 id⟩ * (cellA s23.next (posC leaf2 (g.used + 1)) * M))))) (by ac_rfl)
      refine ⟨_, rfl, _, ldv1 m72.cells rfl, _, _, _, _, ldvg l72.cells rfl, ?_⟩
      have so2 : StaOk ⟨g.ids, g.size, sl2⟩ := staOk_of hos2 hlong2 gids gsz
      have hdp := delC_perm hlk
      have hdl : (delC sl2 id).length + 1 = sl2.length := by rw [← hdp.length_eq, List.length_cons]
      have so3 : StaOk ⟨g.ids, g.size, delC sl2 id⟩ := ⟨so2.most, so2.size, fun e he => so2.ok e (delC_sub he), by have := so2.long; dsimp only at this ⊢; omega⟩
      refine (StPut_spec (Cel.mk c0.id leaf2 c0.data) c60 so3).ret (n72.perm (B := StaA q.t ⟨g.ids, g.size, delC sl2 id⟩ * (cellA q.o (orK q g.d g.z g.size (g.shown ++ [sh]) c2) * (PsA q.m (psSet ps2 id leaf2 (g.used + 1)) * (cellA s57.next ((Cel.mk c0.id leaf2 c0.data).cs c60) * (cellA s23.next (posC leaf2 (g.used + 1)) * M))))) (by ac_rfl)) ?_
      intro s79 n79
      refine ⟨_, rfl, ?_⟩
      have hok3 : CelOk (Cel.mk c0.id leaf2 c0.data) g.size := ⟨hcel0.id1, hcel0.id, by show leaf2 ≤ _; omega, hcel0.long⟩
      have hnew : ∀ y ∈ delC sl2 id, (y.id : Int) ≠ c0.id := (Uid.tail (hos2.uid.left.perm hdp.symm)).2
      have hlong4 := so2.long
      rw [put_new (c := Cel.mk c0.id leaf2 c0.data) hok3 hnew (by dsimp only at hlong4 ⊢; omega)] at n79
      dsimp only at n79
      have hrep := replace_law (c := Cel.mk c0.id leaf2 c0.data) hos2 (by show Near _ _ (c0.id : Int); rw [hid0]; exact hnear2) (by show psHas ps2 (c0.id : Int) = true; rw [hid0]; exact hhas) hok3 hl2 gd (dr := g.used + 1) (by omega) (l' := delC sl2 id ++ [Cel.mk c0.id leaf2 c0.data])
        (by dsimp only; rw [hid0]; exact List.perm_append_comm)
      dsimp only at hrep
      rw [hid0] at hrep
      obtain ⟨r1, r2, r3⟩ := hrep
      refine fin s79 (psSet ps2 id leaf2 (g.used + 1)) (delC sl2 id ++ [Cel.mk c0.id leaf2 c0.data]) r1 (fun i => ?_) (by rw [psSet_length]; exact hlong2) (draw_law hdr hsh (fun i hi => by rw [psGet_set hhas, if_neg hi]; exact hsame i hi) fun p hp => by rw [psGet_set hhas, if_pos rfl] at hp; cases hp; rfl) (fun i => ?_) ?_
      · rw [r3, ← hdat2 i]
        split
        · rename_i hi
          rw [hi, ← near_look hnear2]
          dsimp only
          rw [hlk]; rfl
        · rfl
      · unfold Og.accP
        rw [psGet_set hhas]
        by_cases hi : i = id
        · rw [if_pos hi, if_pos hi, ← hdat2 id, ← near_look hnear2]
          dsimp only
          rw [hlk]; rfl
        · rw [if_neg hi, if_neg hi, hsame i hi]; exact hpd i
      · refine orClose (c := c2) ((n79.perm (B := cellA s57.next ((Cel.mk c0.id leaf2 c0.data).cs c60) * (StaA q.t ⟨g.ids, g.size, delC sl2 id ++ [Cel.mk c0.id leaf2 c0.data]⟩ * (cellA q.o (orK q g.d g.z g.size (g.shown ++ [sh]) c2) * (PsA q.m (psSet ps2 id leaf2 (g.used + 1)) * (cellA s23.next (posC leaf2 (g.used + 1)) * M))))) (by ac_rfl)).drop.perm ?_)
        rw [hM]
        show _ = cellA q.o (orK q g.d g.z g.size (g.shown ++ [sh]) c2) * _
        ac_rfl
  cases hpg : psGet ps id with
  | none =>
    rw [hpg] at n36 h36 main
    refine ⟨fun _ => ?_, fun h => (by cases h)⟩
    have m36 := n36.perm (B := cellA s11.next (posC leaf1 g.used) * (cellA s30.next (posC (((none : Option (Nat × Nat))).getD (0, 0)).1 (((none : Option (Nat × Nat))).getD (0, 0)).2) * (PsA q.m ps * (cellA q.o (orK q g.d g.z g.size g.shown c) * (cellA s23.next (posC leaf2 (g.used + 1)) * (SrcA q.s ⟨g.tape, g.used + 2⟩ * (capA c * K))))))) (by ac_rfl)
    refine ⟨_, _, ldvg m36.cells rfl, rfl, rfl, _, n36.cells, by decide, ?_⟩
    intro s40 h40
    have n40 := n36.set (posC leaf1 g.used)
    rw [show s36.setC s30.next (posC leaf1 g.used) = s40 from h40.symm] at n40
    exact main s40 leaf1 g.used hl1 rfl (fun p hp => by cases hp) n40
  | some p =>
    rw [hpg] at n36 h36 main
    refine ⟨fun h => (by cases h), fun _ => ?_⟩
    exact main s36 p.1 p.2 (hos.leaf id p hpg) rfl (fun q hq => by cases hq; rfl) n36
end Go.Proofs.YtffenelcgjdbiaaGreatDoor
namespace Go.Proofs.YtffenelcgjdbiaaGreatDoor
open Go Go.Sim
set_option maxRecDepth 100000
def Og.may (g : Og) (id : Int) (data : List UInt8) : Bool := decide (1 ≤ id ∧ id ≤ g.ids ∧ data.length = g.size)
def Og.putD (g : Og) (id : Int) (data : List UInt8) : Int → Option (List UInt8) := if g.may id data then fun i => if i = id then some data else g.dat i else g.dat
def Og.delD (g : Og) (id : Int) : Int → Option (List UInt8) := fun i => if i = id then none else g.dat i
theorem mid_look {g : Og} {dat : Int → Option (List UInt8)} {id : Int} {ps : Ps} {sta : Sta} {B : Nat → List Cel} (h : Mid g dat id ps sta B) : (look sta.l id).map (·.data) = dat id := by
  have := near_look h.near
  dsimp only at this
  rw [this]; exact h.dat id
theorem mid_sta {g : Og} {dat : Int → Option (List UInt8)} {id : Int} {ps : Ps} {sta : Sta} {B : Nat → List Cel} (h : Mid g dat id ps sta B) (gok : GOk g) : StaOk sta := by
  have := staOk_of h.os h.long gok.ids gok.size
  rw [← h.most, ← h.ssz] at this
  exact this
theorem read1_spec {q : Oq} {g : Og} (gok : GOk g) (id : Int) {p1 p2 p3 : Nat} (x : Om) (B : Nat → List Cel) (mid : Mid g g.dat id x.ps x.sta B) :
    Does Tryz.prog F_oram_Oram_Read_1 [.ptr p1 0, .ptr p2 0, .ptr p3 0] (OrA q x * (cellA p1 [.ptr q.o 0] * (cellA p2 [.int .i64 id] * cellA p3 [.lst 1 [] .nil])))
      fun r => ex fun w : Ps × Sta => pand (r = .ret (.bool (g.dat id).isSome) ∧ Mid g g.dat id w.1 w.2 B ∧ ∀ i, i ≠ id → psGet w.1 i = psGet x.ps i)
        (OrA q { x with ps := w.1, sta := w.2 } * ex fun c => cellA p3 [.lst 1 (By ((g.dat id).getD [])) c]) := by
  intro st I h
  have n0 := (Now.init h).emp
  obtain ⟨c, n1⟩ := orOpen (n0.perm (B := OrA q x * (cellA p1 [.ptr q.o 0] * (cellA p2 [.int .i64 id] * (cellA p3 [.lst 1 [] .nil] * emp)))) (by ac_rfl))
  obtain ⟨K, hK⟩ : ∃ K, K = BkA q.b q.p q.dv x.bk * (SrcA q.s x.src * (PsA q.m x.ps * (capA c * emp))) := ⟨_, rfl⟩
  have a1 := n1.perm (B := cellA p1 [.ptr q.o 0] * (cellA q.o (orC q x c) * (StaA q.t x.sta * (cellA p2 [.int .i64 id] * (cellA p3 [.lst 1 [] .nil] * K))))) (by rw [hK]; ac_rfl)
  have a2 := a1.perm (B := cellA p2 [.int .i64 id] * (cellA p1 [.ptr q.o 0] * (cellA q.o (orC q x c) * (StaA q.t x.sta * (cellA p3 [.lst 1 [] .nil] * K))))) (by ac_rfl)
  refine w_oram_Oram_Read_1 ⟨_, ldv1 a1.cells rfl, _, ldv1 n1.cells rfl, _, ldv1 a2.cells rfl, ?_⟩
  refine (StPeek_spec id (mid_sta mid gok)).retEx (a1.perm (B := StaA q.t x.sta * (cellA p1 [.ptr q.o 0] * (cellA q.o (orC q x c) * (cellA p2 [.int .i64 id] * (cellA p3 [.lst 1 [] .nil] * K))))) (by ac_rfl)) ?_
  intro c11 s8 n8
  refine ⟨_, _, _, _, _, rfl, ?_⟩
  intro s13 h13
  have n13 := n8.newC [.int .i64 0, .int .i64 0, .lst 1 [] .nil]
  rw [← h13] at n13
  refine ⟨rfl, rfl, _, n13.cells, by decide, ?_⟩
  rw [repl_three]
  intro s15 h15
  have n15 := n13.set ((celOr x.sta.l id).cs c11)
  rw [show s13.setC s8.next ((celOr x.sta.l id).cs c11) = s15 from h15.symm] at n15
  have m15 := n15.perm (B := cellA p3 [.lst 1 [] .nil] * (cellA s8.next ((celOr x.sta.l id).cs c11) * (StaA q.t x.sta * (cellA p1 [.ptr q.o 0] * (cellA q.o (orC q x c) * (cellA p2 [.int .i64 id] * K)))))) (by ac_rfl)
  refine ⟨_, _, ldv1 n15.cells rfl, _, m15.cells, by decide, ?_⟩
  intro s18 h18
  have n18 := m15.set [.lst 1 (By (celOr x.sta.l id).data) c11]
  rw [show s15.setC p3 [V.lst 1 (By (celOr x.sta.l id).data) c11] = s18 from h18.symm] at n18
  have hl := mid_look mid
  have e1 : (look x.sta.l id).isSome = (g.dat id).isSome := by rw [← hl, Option.isSome_map]
  have e2 : (celOr x.sta.l id).data = (g.dat id).getD [] := by
    rw [← hl, celOr]; cases look x.sta.l id <;> rfl
  rw [e2] at n18
  refine (Now.toEx (x.ps, x.sta) (Now.toPand ⟨by rw [e1], mid, fun _ _ => rfl⟩ (R := emp) ?_)).unemp
  have n19 : Now st I ((ex fun c => cellA p3 [.lst 1 (By ((g.dat id).getD [])) c]) * (cellA q.o (orC q x c) * (StaA q.t x.sta * K))) s18 := by
    refine Now.toEx c11 ?_
    refine ((n18.perm (B := cellA s8.next ((celOr x.sta.l id).cs c11) * (cellA p1 [.ptr q.o 0] * (cellA p2 [.int .i64 id] * (cellA p3 [.lst 1 (By ((g.dat id).getD [])) c11] * (cellA q.o (orC q x c) * (StaA q.t x.sta * K)))))) (by ac_rfl)).drop.drop.drop)
  have n20 := orClose (q := q) (x := x) (c := c) (R := (ex fun c => cellA p3 [.lst 1 (By ((g.dat id).getD [])) c]) * emp) (n19.perm (by rw [hK]; ac_rfl))
  exact n20.perm (by ac_rfl)
theorem drop1_spec {q : Oq} {g : Og} (gok : GOk g) (id : Int) {p1 p2 : Nat} (x : Om) (B : Nat → List Cel) (mid : Mid g g.dat id x.ps x.sta B) :
    Does Tryz.prog F_oram_Oram_Drop_1 [.ptr p1 0, .ptr p2 0] (OrA q x * (cellA p1 [.ptr q.o 0] * cellA p2 [.int .i64 id]))
      fun r => ex fun w : Ps × Sta => pand (r = .ret (.bool (g.dat id).isSome) ∧ Mid g (g.delD id) id w.1 w.2 B ∧ ∀ i, i ≠ id → psGet w.1 i = psGet x.ps i)
        (OrA q { x with ps := w.1, sta := w.2 } * emp) := by
  intro st I h
  have n0 := (Now.init h).emp
  obtain ⟨c, n1⟩ := orOpen (n0.perm (B := OrA q x * (cellA p1 [.ptr q.o 0] * (cellA p2 [.int .i64 id] * emp))) (by ac_rfl))
  obtain ⟨K, hK⟩ : ∃ K, K = BkA q.b q.p q.dv x.bk * (SrcA q.s x.src * (capA c * emp)) := ⟨_, rfl⟩
  have a1 := n1.perm (B := cellA p1 [.ptr q.o 0] * (cellA q.o (orC q x c) * (StaA q.t x.sta * (PsA q.m x.ps * (cellA p2 [.int .i64 id] * K))))) (by rw [hK]; ac_rfl)
  have a2 := a1.perm (B := cellA p2 [.int .i64 id] * (cellA p1 [.ptr q.o 0] * (cellA q.o (orC q x c) * (StaA q.t x.sta * (PsA q.m x.ps * K))))) (by ac_rfl)
  refine w_oram_Oram_Drop_1 ⟨_, ldv1 a1.cells rfl, _, ldv1 n1.cells rfl, _, ldv1 a2.cells rfl, ?_⟩
  refine (StTake_spec id).retEx (a1.perm (B := StaA q.t x.sta * (cellA p1 [.ptr q.o 0] * (cellA q.o (orC q x c) * (PsA q.m x.ps * (cellA p2 [.int .i64 id] * K))))) (by ac_rfl)) ?_
  intro c10 s7 n7
  refine ⟨_, _, _, _, _, rfl, ?_⟩
  intro s12 h12
  have n12 := n7.newC [.int .i64 0, .int .i64 0, .lst 1 [] .nil]
  rw [← h12] at n12
  refine ⟨rfl, rfl, _, n12.cells, by decide, ?_⟩
  rw [repl_three]
  intro s14 h14
  have n14 := n12.set ((celOr x.sta.l id).cs c10)
  rw [show s12.setC s7.next ((celOr x.sta.l id).cs c10) = s14 from h14.symm] at n14
  have n15 := n14.drop
  have b1 := n15.perm (B := cellA p1 [.ptr q.o 0] * (cellA q.o (orC q x c) * (StaA q.t ⟨x.sta.most, x.sta.size, delC x.sta.l id⟩ * (PsA q.m x.ps * (cellA p2 [.int .i64 id] * K))))) (by ac_rfl)
  have b2 := n15.perm (B := cellA p2 [.int .i64 id] * (cellA p1 [.ptr q.o 0] * (cellA q.o (orC q x c) * (StaA q.t ⟨x.sta.most, x.sta.size, delC x.sta.l id⟩ * (PsA q.m x.ps * K))))) (by ac_rfl)
  have b3 := n15.perm (B := cellA q.o (orC q x c) * (cellA p1 [.ptr q.o 0] * (StaA q.t ⟨x.sta.most, x.sta.size, delC x.sta.l id⟩ * (PsA q.m x.ps * (cellA p2 [.int .i64 id] * K))))) (by ac_rfl)
  refine ⟨_, ldv1 b1.cells rfl, _, ldv1 b3.cells rfl, _, ldv1 b2.cells rfl, ?_⟩
  have hps : x.ps.length ≤ 10000 := by rw [mid.long]; exact gok.ids
  refine (PsClear_spec id hps).ret (n15.perm (B := PsA q.m x.ps * (cellA p1 [.ptr q.o 0] * (cellA q.o (orC q x c) * (StaA q.t ⟨x.sta.most, x.sta.size, delC x.sta.l id⟩ * (cellA p2 [.int .i64 id] * K))))) (by ac_rfl)) ?_
  intro s19 n19
  have hl := mid_look mid
  have e1 : (look x.sta.l id).isSome = (g.dat id).isSome := by rw [← hl, Option.isSome_map]
  obtain ⟨r1, r2, r3⟩ := remove_law mid.os mid.near
  dsimp only at r1 r2 r3
  have hmid : Mid g (g.delD id) id (psClear x.ps id) ⟨x.sta.most, x.sta.size, delC x.sta.l id⟩ B := by
    refine ⟨mid.most, mid.ssz, r1, r2, by rw [psClear_length]; exact mid.long, fun i => ?_⟩
    dsimp only
    rw [r3]
    unfold Og.delD
    split
    · rfl
    · exact mid.dat i
  have hoth : ∀ i, i ≠ id → psGet (psClear x.ps id) i = psGet x.ps i := fun i hi => by rw [psGet_clear, if_neg hi]
  refine ⟨rfl, (Now.toEx (psClear x.ps id, ⟨x.sta.most, x.sta.size, delC x.sta.l id⟩) (Now.toPand ⟨by rw [e1], hmid, hoth⟩ (R := emp) ?_)).unemp⟩
  have n20 := (n19.perm (B := cellA p1 [.ptr q.o 0] * (cellA p2 [.int .i64 id] * (cellA q.o (orC q x c) * (PsA q.m (psClear x.ps id) * (StaA q.t ⟨x.sta.most, x.sta.size, delC x.sta.l id⟩ * K))))) (by ac_rfl)).drop.drop
  have n21 := orClose (q := q) (x := { x with ps := psClear x.ps id, sta := ⟨x.sta.most, x.sta.size, delC x.sta.l id⟩ }) (c := c) (R := emp) (n20.perm (by rw [hK]; show _ = cellA q.o (orC q x c) * _; ac_rfl))
  exact n21.emp
theorem write1_spec {q : Oq} {g : Og} (gok : GOk g) (id : Int) (data : List UInt8) {cd : Cap} {p1 p2 p3 : Nat} (x : Om) (B : Nat → List Cel) (hsz : x.size = g.size) (mid : Mid g g.dat id x.ps x.sta B) :
    Does Tryz.prog F_oram_Oram_Write_1 [.ptr p1 0, .ptr p2 0, .ptr p3 0] (OrA q x * (cellA p1 [.lst 1 (By data) cd] * (cellA p2 [.ptr q.o 0] * cellA p3 [.int .i64 id])))
      fun r => ex fun w : Ps × Sta => pand (r = .ret (.bool (g.may id data)) ∧ Mid g (g.putD id data) id w.1 w.2 B ∧ ∀ i, i ≠ id → psGet w.1 i = psGet x.ps i)
        (OrA q { x with ps := w.1, sta := w.2 } * emp) := by
  intro st I h
  have n0 := (Now.init h).emp
  obtain ⟨c, n1⟩ := orOpen (n0.perm (B := OrA q x * (cellA p1 [.lst 1 (By data) cd] * (cellA p2 [.ptr q.o 0] * (cellA p3 [.int .i64 id] * emp)))) (by ac_rfl))
  obtain ⟨K, hK⟩ : ∃ K, K = BkA q.b q.p q.dv x.bk * (SrcA q.s x.src * (capA c * emp)) := ⟨_, rfl⟩
  have a0 := n1.perm (B := cellA q.o (orC q x c) * (cellA p1 [.lst 1 (By data) cd] * (cellA p2 [.ptr q.o 0] * (cellA p3 [.int .i64 id] * (StaA q.t x.sta * (PsA q.m x.ps * K)))))) (by rw [hK]; ac_rfl)
  have a1 := a0.perm (B := cellA p1 [.lst 1 (By data) cd] * (cellA q.o (orC q x c) * (cellA p2 [.ptr q.o 0] * (cellA p3 [.int .i64 id] * (StaA q.t x.sta * (PsA q.m x.ps * K)))))) (by ac_rfl)
  have a2 := a0.perm (B := cellA p2 [.ptr q.o 0] * (cellA q.o (orC q x c) * (cellA p1 [.lst 1 (By data) cd] * (cellA p3 [.int .i64 id] * (StaA q.t x.sta * (PsA q.m x.ps * K)))))) (by ac_rfl)
  have a3 := a0.perm (B := cellA p3 [.int .i64 id] * (cellA q.o (orC q x c) * (cellA p1 [.lst 1 (By data) cd] * (cellA p2 [.ptr q.o 0] * (StaA q.t x.sta * (PsA q.m x.ps * K)))))) (by ac_rfl)
  have hps : x.ps.length = g.ids := mid.long
  have hids := gok.ids
  have gsz := gok.size
  have hhas : psHas x.ps id = decide (1 ≤ id ∧ id ≤ (g.ids : Int)) := by rw [psHas, hps]
  have no : ∀ s, g.may id data = false → Now st I (cellA q.o (orC q x c) * (cellA p1 [.lst 1 (By data) cd] * (cellA p2 [.ptr q.o 0] * (cellA p3 [.int .i64 id] * (StaA q.t x.sta * (PsA q.m x.ps * K)))))) s →
      Now st I (ex fun w : Ps × Sta => pand (Res.ret (.bool false) = .ret (.bool (g.may id data)) ∧ Mid g (g.putD id data) id w.1 w.2 B ∧ ∀ i, i ≠ id → psGet w.1 i = psGet x.ps i) (OrA q { x with ps := w.1, sta := w.2 } * emp)) s := by
    intro s hf n
    have hput : g.putD id data = g.dat := by unfold Og.putD; rw [hf]; rfl
    rw [hput]
    refine (Now.toEx (x.ps, x.sta) (Now.toPand ⟨by rw [hf], mid, fun _ _ => rfl⟩ (R := emp) ?_)).unemp
    have n20 := (n.perm (B := cellA p1 [.lst 1 (By data) cd] * (cellA p2 [.ptr q.o 0] * (cellA p3 [.int .i64 id] * (cellA q.o (orC q x c) * (StaA q.t x.sta * (PsA q.m x.ps * K)))))) (by ac_rfl)).drop.drop.drop
    exact (orClose (q := q) (x := x) (c := c) (R := emp) (n20.perm (by rw [hK]; ac_rfl))).emp
  refine w_oram_Oram_Write_1 ⟨_, _, ldv1 a1.cells rfl, _, ldv1 a2.cells rfl, _, ldv1 a0.cells rfl, ?_⟩
  intro K14 h14
  rw [By_length]
  by_cases hlen : data.length = g.size
  · rw [show (((data.length : Nat) : Int) != (x.size : Int)) = false by rw [hlen, hsz]; simp]
    refine ⟨fun _ => ⟨_, ldv1 a2.cells rfl, _, ldv1 a0.cells rfl, _, ldv1 a3.cells rfl, ?_⟩, fun h => (by cases h)⟩
    refine (PsSet_spec (l := x.ps) id 0 0 (by omega) (by decide)).ret (a0.perm (B := PsA q.m x.ps * (cellA q.o (orC q x c) * (cellA p1 [.lst 1 (By data) cd] * (cellA p2 [.ptr q.o 0] * (cellA p3 [.int .i64 id] * (StaA q.t x.sta * K)))))) (by ac_rfl)) ?_
    intro s11 n11
    refine ⟨_, rfl, ?_⟩
    refine h14 _ _ ?_
    cases hh : psHas x.ps id with
    | false =>
      refine ⟨fun _ => no s11 ?_ ?_, fun h => (by cases h)⟩
      · rw [hhas] at hh
        unfold Og.may
        rw [decide_eq_false_iff_not] at hh ⊢
        omega
      · rw [show psSet x.ps id 0 0 = x.ps by rw [psSet, if_neg (by rw [hh]; decide)]] at n11
        exact n11.perm (by ac_rfl)
    | true =>
      have hr : 1 ≤ id ∧ id ≤ (g.ids : Int) := by rw [hhas] at hh; simpa using hh
      have hmay : g.may id data = true := by unfold Og.may; rw [decide_eq_true_eq]; omega
      obtain ⟨k, rfl⟩ : ∃ k : Nat, id = k := ⟨id.toNat, by omega⟩
      refine ⟨fun h => (by cases h), fun _ => ?_⟩
      have b0 := n11.perm (B := cellA q.o (orC q x c) * (cellA p1 [.lst 1 (By data) cd] * (cellA p2 [.ptr q.o 0] * (cellA p3 [.int .i64 k] * (StaA q.t x.sta * (PsA q.m (psSet x.ps k 0 0) * K)))))) (by ac_rfl)
      have b1 := b0.perm (B := cellA p1 [.lst 1 (By data) cd] * (cellA q.o (orC q x c) * (cellA p2 [.ptr q.o 0] * (cellA p3 [.int .i64 k] * (StaA q.t x.sta * (PsA q.m (psSet x.ps k 0 0) * K)))))) (by ac_rfl)
      have b2 := b0.perm (B := cellA p2 [.ptr q.o 0] * (cellA q.o (orC q x c) * (cellA p1 [.lst 1 (By data) cd] * (cellA p3 [.int .i64 k] * (StaA q.t x.sta * (PsA q.m (psSet x.ps k 0 0) * K)))))) (by ac_rfl)
      have b3 := b0.perm (B := cellA p3 [.int .i64 k] * (cellA q.o (orC q x c) * (cellA p1 [.lst 1 (By data) cd] * (cellA p2 [.ptr q.o 0] * (StaA q.t x.sta * (PsA q.m (psSet x.ps k 0 0) * K)))))) (by ac_rfl)
      refine ⟨_, ldv1 b2.cells rfl, _, ldv1 b0.cells rfl, _, ldv1 b3.cells rfl, _, _, ldv1 b1.cells rfl, ?_⟩
      refine (Clone_spec (By data) cd (by rw [By_length]; omega) s11).mono ?_
      rintro _ s21 ⟨c22, rfl, o22⟩
      refine ⟨_, _, rfl, ldv1 (b2.le o22.le).cells rfl, ldv1 (b0.le o22.le).cells rfl, ldv1 (b3.le o22.le).cells rfl, ?_⟩
      have so := mid_sta mid gok
      refine (StPut_spec (Cel.mk k 0 data) c22 so).ret ((b0.le o22.le).perm (B := StaA q.t x.sta * (cellA q.o (orC q x c) * (cellA p1 [.lst 1 (By data) cd] * (cellA p2 [.ptr q.o 0] * (cellA p3 [.int .i64 k] * (PsA q.m (psSet x.ps k 0 0) * K)))))) (by ac_rfl)) ?_
      intro s24 n24
      have hok : CelOk (Cel.mk k 0 data) g.size := ⟨by show 1 ≤ k; omega, by show k ≤ _; omega, Nat.zero_le _, hlen⟩
      have hrep := replace_law (c := Cel.mk k 0 data) mid.os mid.near hh hok (Nat.two_pow_pos _) gok.d (dr := 0) (by decide) (l' := putC x.sta.l (Cel.mk k 0 data)) (putC_perm _ _)
      dsimp only at hrep
      obtain ⟨r1, r2, r3⟩ := hrep
      have hshort := r1.short
      unfold allC at hshort
      dsimp only at hshort
      rw [List.length_append, psSet_length, hps, putC_length] at hshort
      have hm : staMay x.sta (Cel.mk k 0 data) = true := by
        rw [staMay, celOk_iff.2 (by rw [mid.ssz]; exact hok), Bool.true_and, Bool.or_eq_true, decide_eq_true_eq, mid.most]
        cases hlk : (look x.sta.l (Cel.mk k 0 data).id).isSome with
        | true => exact .inl rfl
        | false => rw [hlk] at hshort; right; simp only [Bool.false_eq_true, if_false] at hshort; omega
      have hput : x.sta.put (Cel.mk k 0 data) = ⟨x.sta.most, x.sta.size, putC x.sta.l (Cel.mk k 0 data)⟩ := by rw [Sta.put, if_pos hm]
      rw [hput] at n24
      refine ⟨_, rfl, ?_⟩
      rw [hm]
      have hmid : Mid g (g.putD k data) k (psSet x.ps k 0 0) ⟨x.sta.most, x.sta.size, putC x.sta.l (Cel.mk k 0 data)⟩ B := by
        refine ⟨mid.most, mid.ssz, r1, r2, by rw [psSet_length]; exact hps, fun i => ?_⟩
        dsimp only
        rw [r3]
        unfold Og.putD
        rw [hmay, if_pos rfl]
        split
        · rfl
        · exact mid.dat i
      have hoth : ∀ i, i ≠ (k : Int) → psGet (psSet x.ps k 0 0) i = psGet x.ps i := fun i hi => by rw [psGet_set hh, if_neg hi]
      refine (Now.toEx (psSet x.ps k 0 0, ⟨x.sta.most, x.sta.size, putC x.sta.l (Cel.mk k 0 data)⟩) (Now.toPand ⟨by rw [hmay], hmid, hoth⟩ (R := emp) ?_)).unemp
      have n25 := (n24.perm (B := cellA p1 [.lst 1 (By data) cd] * (cellA p2 [.ptr q.o 0] * (cellA p3 [.int .i64 k] * (cellA q.o (orC q x c) * (PsA q.m (psSet x.ps k 0 0) * (StaA q.t ⟨x.sta.most, x.sta.size, putC x.sta.l (Cel.mk k 0 data)⟩ * K)))))) (by ac_rfl)).drop.drop.drop
      exact (orClose (q := q) (x := { x with ps := psSet x.ps k 0 0, sta := ⟨x.sta.most, x.sta.size, putC x.sta.l (Cel.mk k 0 data)⟩ }) (c := c) (R := emp) (n25.perm (by rw [hK]; show _ = cellA q.o (orC q x c) * _; ac_rfl))).emp
  · have hf : g.may id data = false := by unfold Og.may; rw [decide_eq_false_iff_not]; omega
    rw [show (((data.length : Nat) : Int) != (x.size : Int)) = true by rw [hsz]; simp; omega]
    exact ⟨fun h => (by cases h), fun _ => h14 _ _ ⟨fun _ => no st hf a0, fun h => (by cases h)⟩⟩
theorem OrRead_spec {q : Oq} {g : Og} (gok : GOk g) (id : Int) :
    Does Tryz.prog F_oram_Oram_Read [.ptr q.o 0, .int .i64 id] (OrS q g) fun r => ex fun w : Nat × Cap => pand (r = retO (g.dat id) w.2 ∧ w.1 < 2 ^ g.d) (OrS q (g.acc g.dat id w.1)) := by
  intro st I h
  have n0 := (Now.init h).emp
  refine w_oram_Oram_Read ?_
  intro s3 h3
  have n3 := n0.newC [.ptr q.o 0]
  rw [← h3] at n3
  intro s4 h4
  have n4 := n3.newC [.int .i64 id]
  rw [← h4] at n4
  intro s5 h5
  have n5 := n4.newC [.lst 1 [] .nil]
  rw [← h5] at n5
  have a1 := n5.perm (B := cellA st.next [.ptr q.o 0] * (cellA s3.next [.int .i64 id] * (cellA s4.next [.lst 1 [] .nil] * (OrS q g * emp)))) (by ac_rfl)
  have a2 := n5.perm (B := cellA s3.next [.int .i64 id] * (cellA st.next [.ptr q.o 0] * (cellA s4.next [.lst 1 [] .nil] * (OrS q g * emp)))) (by ac_rfl)
  refine ⟨_, ldv1 a1.cells rfl, _, ldv1 a2.cells rfl, ?_⟩
  refine (access_spec gok id (f3 := 35) (f3c := [.ptr st.next 0, .ptr s3.next 0, .ptr s4.next 0]) (D := cellA st.next [.ptr q.o 0] * (cellA s3.next [.int .i64 id] * cellA s4.next [.lst 1 [] .nil])) (by kernel_rfl)
    (fun x B _ mid => read1_spec gok id x B mid)).call (n5.perm (B := (OrS q g * (cellA st.next [.ptr q.o 0] * (cellA s3.next [.int .i64 id] * cellA s4.next [.lst 1 [] .nil]))) * emp) (by ac_rfl)) ?_
  intro r8 s9 n9a
  obtain ⟨w, n9b⟩ := n9a.ex
  obtain ⟨⟨rfl, hw⟩, n9⟩ := n9b.pand
  refine ⟨_, rfl, ?_⟩
  obtain ⟨c, n10⟩ := (n9.perm (B := (ex fun c => cellA s4.next [.lst 1 (By ((g.dat id).getD [])) c]) * (OrS q (g.acc g.dat id w) * emp)) (by ac_rfl)).ex
  refine ⟨_, _, ldv1 n10.cells rfl, ?_⟩
  exact (Now.toEx (w, c) (Now.toPand ⟨rfl, hw⟩ n10.drop)).unemp
theorem OrWrite_spec {q : Oq} {g : Og} (gok : GOk g) (id : Int) (data : List UInt8) (cd : Cap) :
    Does Tryz.prog F_oram_Oram_Write [.ptr q.o 0, .int .i64 id, .lst 1 (By data) cd] (OrS q g) fun r => ex fun w : Nat => pand (r = .ret (.bool (g.may id data)) ∧ w < 2 ^ g.d) (OrS q (g.acc (g.putD id data) id w)) := by
  intro st I h
  have n0 := (Now.init h).emp
  refine w_oram_Oram_Write ?_
  intro s4 h4
  have n4 := n0.newC [.ptr q.o 0]
  rw [← h4] at n4
  intro s5 h5
  have n5 := n4.newC [.int .i64 id]
  rw [← h5] at n5
  intro s6 h6
  have n6 := n5.newC [.lst 1 (By data) cd]
  rw [← h6] at n6
  have a1 := n6.perm (B := cellA st.next [.ptr q.o 0] * (cellA s4.next [.int .i64 id] * (cellA s5.next [.lst 1 (By data) cd] * (OrS q g * emp)))) (by ac_rfl)
  have a2 := n6.perm (B := cellA s4.next [.int .i64 id] * (cellA st.next [.ptr q.o 0] * (cellA s5.next [.lst 1 (By data) cd] * (OrS q g * emp)))) (by ac_rfl)
  refine ⟨_, ldv1 a1.cells rfl, _, ldv1 a2.cells rfl, ?_⟩
  refine (access_spec gok id (f3 := 28) (f3c := [.ptr s5.next 0, .ptr st.next 0, .ptr s4.next 0]) (D := cellA s5.next [.lst 1 (By data) cd] * (cellA st.next [.ptr q.o 0] * cellA s4.next [.int .i64 id])) (by kernel_rfl)
    (fun x B hx mid => write1_spec gok id data x B hx mid)).call (n6.perm (B := (OrS q g * (cellA s5.next [.lst 1 (By data) cd] * (cellA st.next [.ptr q.o 0] * cellA s4.next [.int .i64 id]))) * emp) (by ac_rfl)) ?_
  intro r8 s9 n9a
  obtain ⟨w, n9b⟩ := n9a.ex
  obtain ⟨⟨rfl, hw⟩, n9⟩ := n9b.pand
  refine ⟨_, rfl, ?_⟩
  exact (Now.toEx w (Now.toPand ⟨rfl, hw⟩ n9.unemp)).unemp
theorem OrDrop_spec {q : Oq} {g : Og} (gok : GOk g) (id : Int) :
    Does Tryz.prog F_oram_Oram_Drop [.ptr q.o 0, .int .i64 id] (OrS q g) fun r => ex fun w : Nat => pand (r = .ret (.bool (g.dat id).isSome) ∧ w < 2 ^ g.d) (OrS q (g.acc (g.delD id) id w)) := by
  intro st I h
  have n0 := (Now.init h).emp
  refine w_oram_Oram_Drop ?_
  intro s3 h3
  have n3 := n0.newC [.ptr q.o 0]
  rw [← h3] at n3
  intro s4 h4
  have n4 := n3.newC [.int .i64 id]
  rw [← h4] at n4
  have a1 := n4.perm (B := cellA st.next [.ptr q.o 0] * (cellA s3.next [.int .i64 id] * (OrS q g * emp))) (by ac_rfl)
  refine ⟨_, ldv1 a1.cells rfl, _, ldv1 n4.cells rfl, ?_⟩
  refine (access_spec gok id (f3 := 32) (f3c := [.ptr st.next 0, .ptr s3.next 0]) (D := cellA st.next [.ptr q.o 0] * cellA s3.next [.int .i64 id]) (by kernel_rfl)
    (fun x B _ mid => drop1_spec gok id x B mid)).call (n4.perm (B := (OrS q g * (cellA st.next [.ptr q.o 0] * cellA s3.next [.int .i64 id])) * emp) (by ac_rfl)) ?_
  intro r8 s9 n9a
  obtain ⟨w, n9b⟩ := n9a.ex
  obtain ⟨⟨rfl, hw⟩, n9⟩ := n9b.pand
  refine ⟨_, rfl, ?_⟩
  exact (Now.toEx w (Now.toPand ⟨rfl, hw⟩ n9.unemp)).unemp
theorem OrDummy_spec {q : Oq} {g : Og} (gok : GOk g) :
    Does Tryz.prog F_oram_Oram_Dummy [.ptr q.o 0] (OrS q g) fun r => ex fun w : Nat => pand (r = .ret (.tup []) ∧ w < 2 ^ g.d) (OrS q (g.acc g.dat 0 w)) := by
  intro st I h
  have n0 := (Now.init h).emp
  refine w_oram_Oram_Dummy ?_
  refine (access_spec (ok := true) (D' := emp) (dat' := g.dat) gok 0 (f3 := 47) (f3c := []) (D := emp) (by kernel_rfl)
    (fun x B _ mid => fun st1 I1 h1 => w_oram_Oram_Dummy_1 (Now.toEx (x.ps, x.sta) (Now.toPand ⟨rfl, mid, fun _ _ => rfl⟩ (Now.init h1).emp)).unemp)).call n0.emp ?_
  intro r8 s9 n9a
  obtain ⟨w, n9b⟩ := n9a.ex
  obtain ⟨⟨rfl, hw⟩, n9⟩ := n9b.pand
  refine ⟨_, rfl, ?_⟩
  exact (Now.toEx w (Now.toPand ⟨rfl, hw⟩ n9.unemp)).unemp
theorem OrShown_spec {q : Oq} {g : Og} (gok : GOk g) :
    Does Tryz.prog F_oram_Oram_Shown [.ptr q.o 0] (OrS q g) fun r => ex fun c => pand (r = .ret (.lst 1 (U64s g.shown) c)) (OrS q g) := by
  intro st I h
  have nn := (Now.init h).emp
  obtain ⟨w, n0⟩ := nn.ex
  obtain ⟨inv, n1⟩ := n0.pand
  obtain ⟨c, n2⟩ := orOpen n1
  have e : (orC q w.1 c)[7]? = some (.lst 1 (U64s g.shown) c) := by rw [← inv.shown]; rfl
  refine w_oram_Oram_Shown ⟨_, _, ldv1 n2.cells e, ?_⟩
  refine (Clone64_spec (U64s g.shown) c (by have := gok.shown; simp [U64s]; omega) st).mono ?_
  rintro _ s4 ⟨c5, rfl, o5⟩
  exact ⟨_, _, rfl, (Now.toEx c5 (Now.toPand rfl (nn.le o5.le))).unemp⟩
end Go.Proofs.YtffenelcgjdbiaaGreatDoor
namespace Go.Proofs.YtffenelcgjdbiaaGreatDoor
open Go Go.Sim
set_option maxRecDepth 100000
def stateL (x : Om) : List UInt8 := psState x.ps ++ stL x.sta.most x.sta.size (srtL x.sta.l)
theorem OrState_spec {q : Oq} {x : Om} (po : PsOk x.ps) (so : StaOk x.sta) (hu : Uid x.sta.l) :
    Does Tryz.prog F_oram_Oram_State [.ptr q.o 0] (OrA q x) fun r => ex fun c => pand (r = .ret (.lst 1 (By (stateL x)) c)) (OrA q x) := by
  intro st I h
  obtain ⟨c, n0⟩ := orOpen (Now.init h).emp
  obtain ⟨K, hK⟩ : ∃ K, K = BkA q.b q.p q.dv x.bk * (SrcA q.s x.src * (capA c * emp)) := ⟨_, rfl⟩
  refine w_oram_Oram_State ⟨_, ldv1 n0.cells rfl, _, ldv1 n0.cells rfl, ?_⟩
  refine (PsState_spec po).retEx (n0.perm (B := PsA q.m x.ps * (cellA q.o (orC q x c) * (StaA q.t x.sta * K))) (by rw [hK]; ac_rfl)) ?_
  intro c6 s5 n5
  have a5 := n5.perm (B := cellA q.o (orC q x c) * (PsA q.m x.ps * (StaA q.t x.sta * K))) (by ac_rfl)
  refine ⟨_, _, rfl, ldv1 a5.cells rfl, ?_⟩
  refine (StState_spec so hu).retEx (n5.perm (B := StaA q.t x.sta * (PsA q.m x.ps * (cellA q.o (orC q x c) * K))) (by ac_rfl)) ?_
  intro c9 s8 n8
  refine ⟨_, _, rfl, ?_⟩
  have h1 := psState_length x.ps
  have h2 : (stL x.sta.most x.sta.size (srtL x.sta.l)).length = 4 + x.sta.most * (8 + x.sta.size) := stL_length (by rw [srtL_length]; exact so.long) fun c hc => so.ok c ((srtL_perm hu).mem_iff.1 hc)
  have h3 := mul_le16 so.most so.size
  have h4 := po.long
  refine (Concat_spec [(psState x.ps, .unk), (stL x.sta.most x.sta.size (srtL x.sta.l), .unk)] .exact (by simp) (by simp; omega) (by simp; omega) s8).mono ?_
  rintro _ s11 ⟨c12, rfl, o11⟩
  have e : (([(psState x.ps, Cap.unk), (stL x.sta.most x.sta.size (srtL x.sta.l), .unk)] : List (List UInt8 × Cap)).map (·.1)).flatten = stateL x := by simp [stateL]
  rw [e]
  refine ⟨_, _, rfl, (Now.toEx c12 (Now.toPand rfl (R := emp) ?_)).unemp⟩
  exact (orClose (c := c) (n8.perm (by rw [hK]; ac_rfl))).le o11.le
theorem OrLoad_spec {q : Oq} {x : Om} {ps' : Ps} {l' : List Cel} (cb : Cap) (po : PsOk x.ps) (hl : ps'.length = x.ps.length) (full : PsFull ps') (ok : StaOk ⟨x.sta.most, x.sta.size, l'⟩) (hs : l'.Pairwise fun a b => a.id < b.id) :
    Does Tryz.prog F_oram_Oram_Load [.ptr q.o 0, .lst 1 (By (psState ps' ++ stL x.sta.most x.sta.size l')) cb] (OrA q x) fun r => pand (r = .ret (.bool true)) (OrA q { x with ps := ps', sta := ⟨x.sta.most, x.sta.size, l'⟩ }) := by
  intro st I h
  obtain ⟨c, n0⟩ := orOpen (Now.init h).emp
  obtain ⟨K, hK⟩ : ∃ K, K = BkA q.b q.p q.dv x.bk * (SrcA q.s x.src * (capA c * emp)) := ⟨_, rfl⟩
  have hps := psState_length x.ps
  have hps' := psState_length ps'
  have hst := stL_length (most := x.sta.most) (size := x.sta.size) ok.long ok.ok
  have h4 := po.long
  refine w_oram_Oram_Load ⟨_, ldv1 n0.cells rfl, ?_⟩
  refine (PsState_spec po).retEx (n0.perm (B := PsA q.m x.ps * (cellA q.o (orC q x c) * (StaA q.t x.sta * K))) (by rw [hK]; ac_rfl)) ?_
  intro c6 s5 n5
  have a5 := n5.perm (B := cellA q.o (orC q x c) * (PsA q.m x.ps * (StaA q.t x.sta * K))) (by ac_rfl)
  refine ⟨_, _, rfl, _, ldv1 a5.cells rfl, ?_⟩
  refine (PsState_spec po).retEx n5 ?_
  intro c10 s9 n9
  have a9 := n9.perm (B := cellA q.o (orC q x c) * (PsA q.m x.ps * (StaA q.t x.sta * K))) (by ac_rfl)
  refine ⟨_, _, rfl, ?_⟩
  intro K17 h17
  have hL1 : (By (psState x.ps)).length = 12 * x.ps.length := by rw [By_length, hps]
  have hL2 : (By (psState ps' ++ stL x.sta.most x.sta.size l')).length = 12 * ps'.length + (4 + x.sta.most * (8 + x.sta.size)) := by rw [By_length, List.length_append, hps', hst]
  rw [hL1, hL2]
  rw [show decide (((12 * ps'.length + (4 + x.sta.most * (8 + x.sta.size)) : Nat) : Int) < ((12 * x.ps.length : Nat) : Int)) = false by simp only [decide_eq_false_iff_not]; omega]
  refine ⟨fun _ => ⟨_, ldv1 a9.cells rfl, 12 * x.ps.length, rfl, by omega, ?_⟩, fun h => (by cases h)⟩
  have e1 : (By (psState ps' ++ stL x.sta.most x.sta.size l')).take (12 * x.ps.length) = By (psState ps') := by rw [By_take, List.take_left' (by omega)]
  have e2 : (By (psState ps' ++ stL x.sta.most x.sta.size l')).drop (12 * x.ps.length) = By (stL x.sta.most x.sta.size l') := by rw [By_drop, List.drop_left' (by omega)]
  rw [e1]
  refine (PsLoad_spec _ hl full).ret n9 ?_
  intro s14 n14
  refine ⟨_, rfl, ?_⟩
  refine h17 _ _ ⟨fun h => (by cases h), fun _ => ?_⟩
  have a14 := n14.perm (B := cellA q.o (orC q x c) * (PsA q.m ps' * (StaA q.t x.sta * K))) (by ac_rfl)
  refine ⟨_, ldv1 a14.cells rfl, 12 * x.ps.length, by rw [hL1], by omega, ?_⟩
  rw [e2]
  refine (StLoad_spec _ ok hs).ret (n14.perm (B := StaA q.t x.sta * (cellA q.o (orC q x c) * (PsA q.m ps' * K))) (by ac_rfl)) ?_
  intro s22 n22
  refine ⟨_, rfl, fun h => (by cases h), fun _ => (Now.toPand rfl (R := emp) ?_).unemp⟩
  refine orClose (c := c) (n22.perm ?_)
  rw [hK]
  show _ = cellA q.o (orC q x c) * _
  ac_rfl
theorem Contains_spec {l : List Nat} (c : Cap) {k : Nat} (hk : k ∈ l) (hl : l.length ≤ 2 ^ 40) (st : St) :
    RCall Tryz.prog F_slices_Contains_int_int [.lst 1 (Is l) c, .int .i64 k] st fun r s => r = .ret (.bool true) ∧ s = st := by
  refine w_slices_Contains_int_int ?_
  refine w_slices_Index_int_int ?_
  rw [Is_length]
  refine ⟨fun n i s => ∃ j : Nat, i = j ∧ j ≤ l.length ∧ n = l.length - j ∧ (∀ a ∈ l.take j, a ≠ k) ∧ s = st, ⟨l.length, 0, rfl, by omega, rfl, fun a ha => by simp at ha, rfl⟩, ?_⟩
  rintro _ _ _ ⟨j, rfl, hj, rfl, hno, rfl⟩
  refine br (fun hlt => ?_) fun hge => ?_
  · have hj' : j < l.length := by omega
    refine ⟨j, rfl, _, Is_get hj', breq (fun he => ?_) fun hne => ?_⟩
    · exact ⟨_, rfl, by rw [show decide ((j : Int) ≥ 0) = true by simp], rfl⟩
    · refine ⟨l.length - (j + 1), by omega, j + 1, by rw [w64 (by omega)]; omega, by omega, rfl, fun a ha => ?_, rfl⟩
      rw [List.take_succ_eq_append_getElem hj'] at ha
      rcases List.mem_append.1 ha with ha | ha
      · exact hno a ha
      · rw [List.mem_singleton] at ha; subst ha; omega
  · rw [List.take_of_length_le (by omega)] at hno
    exact absurd rfl (hno k hk)
theorem right_spec {q : Oq} {x : Om} (hd : x.d ≤ 16) (po : PsOk x.ps) (e : Cel) (cap : Cap) (k : Nat) {dr : Nat} (hg : psGet x.ps e.id = some (e.leaf, dr)) (hl : e.leaf < 2 ^ x.d) (hk : k ∈ onL x.d e.leaf) :
    Does Tryz.prog F_oram_Oram_right [.ptr q.o 0, e.v cap, .int .i64 k] (OrA q x) fun r => pand (r = .ret (.bool true)) (OrA q x) := by
  intro st I h
  refine w_oram_Oram_right ?_
  intro s6 h6
  have n6 := (Now.init h).newC (e.cs cap)
  rw [show st.newC (e.cs cap) = s6 from h6.symm] at n6
  obtain ⟨c, n7⟩ := orOpen ((n6.perm (sep_comm _ _)))
  obtain ⟨K, hK⟩ : ∃ K, K = BkA q.b q.p q.dv x.bk * (SrcA q.s x.src * (StaA q.t x.sta * capA c)) := ⟨_, rfl⟩
  have a7 := n7.perm (B := cellA st.next (e.cs cap) * (cellA q.o (orC q x c) * (PsA q.m x.ps * K))) (by rw [hK]; ac_rfl)
  refine ⟨_, ldv1 n7.cells rfl, _, ldv1 a7.cells rfl, ?_⟩
  refine (PsGet_spec (e.id : Int) po).ret (a7.perm (B := PsA q.m x.ps * (cellA st.next (e.cs cap) * (cellA q.o (orC q x c) * K))) (by ac_rfl)) ?_
  intro s10 n10
  rw [hg]
  refine ⟨_, _, _, rfl, ?_⟩
  intro s14 h14
  have n14 := n10.newC [.int .i64 0, .int .u64 0]
  rw [← h14] at n14
  refine ⟨rfl, rfl, _, n14.cells, by decide, ?_⟩
  rw [repl_two']
  intro s16 h16
  have n16 := n14.set (posC e.leaf dr)
  rw [show s14.setC s10.next (posC e.leaf dr) = s16 from h16.symm] at n16
  have b16 := n16.perm (B := cellA st.next (e.cs cap) * (cellA s10.next (posC e.leaf dr) * (cellA q.o (orC q x c) * (PsA q.m x.ps * K)))) (by ac_rfl)
  have c16 := n16.perm (B := cellA q.o (orC q x c) * (cellA s10.next (posC e.leaf dr) * (cellA st.next (e.cs cap) * (PsA q.m x.ps * K)))) (by ac_rfl)
  intro K20 h20
  refine ⟨fun _ => ⟨_, ldv1 n16.cells rfl, _, ldv1 b16.cells rfl, ?_⟩, fun h => (by cases h)⟩
  refine h20 _ _ ?_
  intro K31 h31
  refine ⟨fun _ => ⟨_, ldv1 c16.cells rfl, _, ldv1 n16.cells rfl, ?_⟩, fun h => (by simp at h)⟩
  refine (On_spec hd hl s16).mono ?_
  rintro _ s25 ⟨c26, rfl, o25⟩
  refine ⟨_, _, rfl, ?_⟩
  refine (Contains_spec c26 hk (by rw [onL_len]; omega) s25).mono ?_
  rintro _ s28 ⟨rfl, rfl⟩
  refine ⟨_, rfl, h31 _ _ (Now.toPand rfl (R := emp) ?_).unemp⟩
  refine orClose (c := c) (((b16.le o25.le).drop.drop).perm ?_)
  rw [hK]
  have : cellA q.o (orC q x c) * (PsA q.m x.ps * (BkA q.b q.p q.dv x.bk * (SrcA q.s x.src * (StaA q.t x.sta * capA c)))) = cellA q.o (orC q x c) * (PsA q.m x.ps * (BkA q.b q.p q.dv x.bk * (SrcA q.s x.src * (StaA q.t x.sta * (capA c * emp))))) := by rw [sep_emp]
  rw [this]; ac_rfl
def ones (l : List Cel) : List (V × V) := l.map fun c => (.int .i64 c.id, .int .i64 1)
theorem lookM_ones (l : List Cel) (id : Int) : lookM (ones l) .i64 id = some ((look l id).map fun _ => .int .i64 1) := by
  induction l with
  | nil => rfl
  | cons x r ih =>
    show (if IntKind.i64 = IntKind.i64 then (if id = (x.id : Int) then some (some (V.int .i64 1)) else lookM (ones r) .i64 id) else none) = _
    rw [if_pos rfl, look, List.find?_cons]
    by_cases h : id = (x.id : Int)
    · rw [if_pos h, decide_eq_true h.symm]; rfl
    · rw [if_neg h, decide_eq_false (fun e => h e.symm), ih]; rfl
theorem updM_ones {l : List Cel} {c : Cel} (h : ∀ y ∈ l, (y.id : Int) ≠ c.id) : updM (ones l) .i64 (c.id : Int) (.int .i64 1) = ones (l ++ [c]) := by
  induction l with
  | nil => rfl
  | cons x r ih =>
    show (if (c.id : Int) = (x.id : Int) then _ else (V.int .i64 x.id, V.int .i64 1) :: updM (ones r) .i64 c.id (.int .i64 1)) = _
    rw [if_neg fun e => h x (List.mem_cons_self ..) e.symm, ih fun y hy => h y (List.mem_cons_of_mem _ hy)]; rfl
theorem mlook_ones {st : St} {m : Nat} {l : List Cel} (h : st.maps m = some (ones l)) (id : Int) : st.mlook m .i64 id (.int .i64 0) = some (.int .i64 (if (look l id).isSome then 1 else 0), (look l id).isSome) := by
  unfold St.mlook
  rw [h]
  simp only [Option.bind_some, lookM_ones, Option.map_some]
  cases look l id <;> rfl
def cntP (ps : Ps) (n : Nat) : Nat := ((List.range n).filter fun (j : Nat) => (psGet ps (j : Int)).isSome).length
theorem cntP_succ (ps : Ps) (n : Nat) : cntP ps (n + 1) = if (psGet ps (n : Int)).isSome then cntP ps n + 1 else cntP ps n := by
  unfold cntP
  rw [List.range_succ, List.filter_append, List.length_append]
  by_cases h : (psGet ps (n : Int)).isSome = true <;> simp [h]
theorem cntP_all {d size : Nat} {y : Os} (h : OsOk d size y) : cntP y.ps (12 * y.ps.length) = (allC d y).length := by
  have hmem : ∀ a : Int, a ∈ ((List.range (12 * y.ps.length)).filter fun (j : Nat) => (psGet y.ps (j : Int)).isSome).map (fun n : Nat => (n : Int)) ↔ a ∈ (allC d y).map fun c => (c.id : Int) := by
    intro a
    rw [List.mem_map, List.mem_map]
    constructor
    · rintro ⟨n, hn, rfl⟩
      rw [List.mem_filter] at hn
      obtain ⟨p, hp⟩ := Option.isSome_iff_exists.1 hn.2
      obtain ⟨c, hc, e⟩ := h.there _ p hp
      exact ⟨c, hc, e⟩
    · rintro ⟨c, hc, rfl⟩
      obtain ⟨_, dr, hg⟩ := h.cell c hc
      have := psHas_get hg
      simp only [psHas, decide_eq_true_eq] at this
      exact ⟨c.id, List.mem_filter.2 ⟨List.mem_range.2 (by omega), by rw [hg]; rfl⟩, rfl⟩
  have hn : (((List.range (12 * y.ps.length)).filter fun (j : Nat) => (psGet y.ps (j : Int)).isSome).map (fun n : Nat => (n : Int))).Nodup := by
    rw [List.Nodup, List.pairwise_map]
    exact (List.Pairwise.filter _ List.nodup_range).imp fun h e => h (by omega)
  have := ((List.perm_ext_iff_of_nodup hn h.uid).2 hmem).length_eq
  rw [List.length_map, List.length_map] at this
  exact this
theorem look_pre {l m : List Cel} {c : Cel} (h : Uid (l ++ (c :: m))) : ∀ y ∈ l, (y.id : Int) ≠ c.id := by
  intro y hy e
  unfold Uid at h
  rw [List.map_append, List.nodup_append] at h
  exact h.2.2 _ (List.mem_map.2 ⟨y, hy, rfl⟩) _ (List.mem_map.2 ⟨c, List.mem_cons_self .., rfl⟩) e
theorem allB_cut {n k : Nat} (hk : k < n) (B : Nat → List Cel) : ∃ r, allB n B = allB k B ++ (B k ++ r) := by
  induction n with
  | zero => omega
  | succ n ih =>
    by_cases h : k = n
    · subst h; exact ⟨[], by rw [allB_succ, List.append_nil]⟩
    · obtain ⟨r, hr⟩ := ih (by omega)
      exact ⟨r ++ B n, by rw [allB_succ, hr]; simp only [List.append_assoc]⟩
theorem Check_spec {q : Oq} {x : Om} {m n : Nat} {B : Nat → List Cel} (hn : n = 2 * 2 ^ x.d - 1) (hd : x.d ≤ 16) (hz : x.z ≤ 16) (hb : BkR x.bk m n x.z x.size B) (hm : m ≤ 2 ^ 39) (os : OsOk x.d x.size ⟨x.ps, x.sta.l, B⟩) (so : StaOk x.sta) (hss : x.sta.size = x.size) :
    Does Tryz.prog F_oram_Oram_Check [.ptr q.o 0] (OrA q x) fun r => ex fun bk => pand (r = .ret (.bool true) ∧ BkR bk (m + n) n x.z x.size B ∧ bk.tr = x.bk.tr ++ evR (List.range n)) (OrA q { x with bk := bk }) := by
  intro st I h
  have nn := (Now.init h).emp
  have po : PsOk x.ps := os.full.ok
  have hs6 : x.size ≤ 60000 := by rw [← hss]; exact so.size
  have hpow : 2 ^ x.d ≤ 2 ^ 16 := Nat.pow_le_pow_right (by decide) hd
  have hul : Uid x.sta.l := os.uid.left
  have huB : Uid (allB n B ++ srtL x.sta.l) := by
    refine os.uid.perm ?_
    unfold allC
    dsimp only
    rw [← hn]
    exact List.perm_append_comm.trans ((srtL_perm hul).symm.append_left _)
  have hbig : ∀ k < n, ∀ e ∈ B k, e ∈ allC x.d ⟨x.ps, x.sta.l, B⟩ := fun k hk e he => List.mem_append_right _ (mem_allB.2 ⟨k, by omega, he⟩)
  refine w_oram_Oram_Check ?_
  intro s2 h2
  have n2 := nn.newM
  rw [← h2] at n2
  obtain ⟨c0, n2'⟩ := orOpen (n2.perm (B := OrA q x * (mapA st.next [] * emp)) (by ac_rfl))
  refine ⟨_, ldv1 n2'.cells rfl, ?_⟩
  refine (Buckets_spec hd s2).mono ?_
  rintro _ s5 ⟨rfl, l5⟩
  refine ⟨_, rfl, ?_⟩
  rw [← hn]
  refine ⟨fun k i s => ∃ j : Nat, i = j ∧ j ≤ n ∧ k = n - j ∧ ∃ bk, BkR bk (m + j) n x.z x.size B ∧ bk.tr = x.bk.tr ++ evR (List.range j) ∧ Now st I (OrA q { x with bk := bk } * (mapA st.next (ones (allB j B)) * emp)) s,
    ⟨n, 0, rfl, by omega, rfl, x.bk, hb, by simp [evR], ((n2.le l5).perm (by show _ = OrA q x * (mapA st.next [] * emp); ac_rfl))⟩, ?_⟩
  rintro _ _ s10 ⟨j, rfl, hj, rfl, bk, hbk, htr, n10⟩
  refine br (fun hlt => ?_) fun hge => ?_
  · have hjn : j < n := by omega
    refine (bucket_spec (x := { x with bk := bk }) j hjn hz hs6 hbk (by omega)).retEx n10 ?_
    intro c13 s12 n12
    refine ⟨_, _, rfl, ?_⟩
    rw [Cels_length]
    refine ⟨fun k i s => ∃ t : Nat, i = t ∧ t ≤ (B j).length ∧ k = (B j).length - t ∧ Now st I (OrA q { x with bk := bk.read j } * (mapA st.next (ones (allB j B ++ (B j).take t)) * emp)) s,
      ⟨(B j).length, 0, rfl, by omega, rfl, by simpa using n12⟩, ?_⟩
    rintro _ _ s17 ⟨t, rfl, ht, rfl, n17⟩
    have hroom := hb.room j hjn
    refine br (fun hlt2 => ?_) fun hge2 => ?_
    · have ht' : t < (B j).length := by omega
      refine ⟨t, rfl, _, _, _, _, Cels_get ht', ?_⟩
      have hmem := hbig j hjn _ (List.getElem_mem ht')
      have hon := os.on j (by rw [← hn]; exact hjn) _ (List.getElem_mem ht')
      have estep : (B j).take (t + 1) = (B j).take t ++ [(B j)[t]] := List.take_succ_eq_append_getElem ht'
      have hpre : ∀ y ∈ allB j B ++ (B j).take t, (y.id : Int) ≠ (B j)[t].id := by
        obtain ⟨r, hr⟩ := allB_cut hjn B
        refine look_pre (m := (B j).drop (t + 1) ++ (r ++ srtL x.sta.l)) ?_
        rw [hr] at huB
        have e : B j = (B j).take t ++ ((B j)[t] :: (B j).drop (t + 1)) := by
          conv => lhs; rw [← List.take_append_drop t (B j), List.drop_eq_getElem_cons ht']
        rw [e] at huB
        simpa only [List.append_assoc, List.cons_append] using huB
      generalize (B j)[t] = e at hmem hon estep hpre ⊢
      obtain ⟨hcel, dr, hg⟩ := os.cell e hmem
      dsimp only at hg
      intro s22 h22
      have n22 := n17.newC [.int .i64 0, .int .i64 0, .lst 1 [] .nil]
      rw [← h22] at n22
      refine ⟨rfl, rfl, _, n22.cells, by decide, ?_⟩
      rw [repl_three]
      intro s24 h24
      have n24 := n22.set (e.cs .unk)
      rw [show s22.setC s17.next (e.cs .unk) = s24 from h24.symm] at n24
      have m24 := n24.perm (B := mapA st.next (ones (allB j B ++ (B j).take t)) * (cellA s17.next (e.cs .unk) * (OrA q { x with bk := bk.read j } * emp))) (by ac_rfl)
      have hlk : look (allB j B ++ (B j).take t) e.id = none := look_new hpre
      refine ⟨_, ldv1 n24.cells rfl, _, _, mlook_ones m24.maps e.id, _, m24.maps, by rw [lookM_ones]; rfl, ?_⟩
      rw [hlk]
      intro s29 h29
      rw [show IntKind.i64.wrap ((if (none : Option Cel).isSome = true then (1 : Int) else 0) + 1) = 1 from rfl, updM_ones hpre, List.append_assoc, ← estep] at h29
      have n29 := m24.setM (ones (allB j B ++ (B j).take (t + 1)))
      rw [← h29] at n29
      have m29 := n29.perm (B := cellA s17.next (e.cs .unk) * (mapA st.next (ones (allB j B ++ (B j).take (t + 1))) * (OrA q { x with bk := bk.read j } * emp))) (by ac_rfl)
      refine ⟨_, _, _, _, ldvg m29.cells rfl, ?_⟩
      refine (right_spec (x := { x with bk := bk.read j }) hd po e .unk j hg (os.leaf _ _ hg) hon).ret (n29.perm (B := OrA q { x with bk := bk.read j } * (cellA s17.next (e.cs .unk) * (mapA st.next (ones (allB j B ++ (B j).take (t + 1))) * emp))) (by ac_rfl)) ?_
      intro s34 n34
      refine ⟨_, rfl, fun h => (by cases h), fun _ => ⟨(B j).length - (t + 1), by omega, t + 1, by rw [w64 (by omega)]; omega, by omega, rfl, ?_⟩⟩
      exact (n34.perm (B := cellA s17.next (e.cs .unk) * (OrA q { x with bk := bk.read j } * (mapA st.next (ones (allB j B ++ (B j).take (t + 1))) * emp))) (by ac_rfl)).drop
    · rw [List.take_of_length_le (show (B j).length ≤ t by omega), ← allB_succ] at n17
      refine ⟨n - (j + 1), by omega, j + 1, by rw [w64 (by omega)]; omega, by omega, rfl, bk.read j, hbk.read j, ?_, n17⟩
      rw [hbk.tr_read, htr, List.range_succ, evR, evR, List.map_append, List.append_assoc]; rfl
  · have hjn : j = n := by omega
    subst hjn
    obtain ⟨c1, n11⟩ := orOpen n10
    refine ⟨_, ldv1 n11.cells rfl, ?_⟩
    obtain ⟨K, hK⟩ : ∃ K, K = BkA q.b q.p q.dv bk * (SrcA q.s x.src * (capA c1 * emp)) := ⟨_, rfl⟩
    have m11 := n11.perm (B := StaA q.t x.sta * (cellA q.o (orC q x c1) * (PsA q.m x.ps * (mapA st.next (ones (allB j B)) * K)))) (by rw [hK]; show cellA q.o (orC q x c1) * _ = _; ac_rfl)
    have hlong := so.long
    have hmost := so.most
    refine (IDs_spec (by omega) (fun e he => (so.ok e he).id)).retEx m11 ?_
    intro c41 s40 n40
    refine ⟨_, _, rfl, ?_⟩
    have hil : (idsL x.sta.l).length = x.sta.l.length := by rw [(idsL_perm x.sta.l).length_eq, List.length_map]
    rw [show ((idsL x.sta.l).map (V.int .i64)).length = x.sta.l.length by rw [List.length_map, hil]]
    refine ⟨fun k i s => ∃ t : Nat, i = t ∧ t ≤ x.sta.l.length ∧ k = x.sta.l.length - t ∧ Now st I (StaA q.t x.sta * (cellA q.o (orC q x c1) * (PsA q.m x.ps * (mapA st.next (ones (allB j B ++ (srtL x.sta.l).take t)) * K)))) s,
      ⟨x.sta.l.length, 0, rfl, by omega, rfl, by simpa using n40⟩, ?_⟩
    rintro _ _ s45 ⟨t, rfl, ht, rfl, n45⟩
    refine br (fun hlt2 => ?_) fun hge2 => ?_
    · have ht' : t < (srtL x.sta.l).length := by rw [srtL_length]; omega
      have ht2 : t < (idsL x.sta.l).length := by omega
      refine ⟨t, rfl, _, by rw [List.getElem?_map, List.getElem?_eq_getElem ht2]; rfl, ?_⟩
      have ec : celOr x.sta.l (idsL x.sta.l)[t] = (srtL x.sta.l)[t] := by simp only [srtL, List.getElem_map]
      have hem : (srtL x.sta.l)[t] ∈ x.sta.l := (srtL_perm hul).mem_iff.1 (List.getElem_mem ht')
      have eid : (idsL x.sta.l)[t] = ((srtL x.sta.l)[t].id : Int) := by
        have := srtL_ids hul
        have e2 : (idsL x.sta.l)[t] = ((srtL x.sta.l).map fun c => (c.id : Int))[t]'(by rw [List.length_map]; exact ht') := by simp only [this]
        rw [e2, List.getElem_map]
      have hpre : ∀ y ∈ allB j B ++ (srtL x.sta.l).take t, (y.id : Int) ≠ (srtL x.sta.l)[t].id := by
        refine look_pre (m := (srtL x.sta.l).drop (t + 1)) ?_
        have e : srtL x.sta.l = (srtL x.sta.l).take t ++ ((srtL x.sta.l)[t] :: (srtL x.sta.l).drop (t + 1)) := by
          conv => lhs; rw [← List.take_append_drop t (srtL x.sta.l), List.drop_eq_getElem_cons ht']
        rw [e] at huB
        simpa only [List.append_assoc] using huB
      have estep : (srtL x.sta.l).take (t + 1) = (srtL x.sta.l).take t ++ [(srtL x.sta.l)[t]] := List.take_succ_eq_append_getElem ht'
      rw [eid] at ec ⊢
      generalize (srtL x.sta.l)[t] = e at ec hem hpre estep ⊢
      obtain ⟨hcel, dr, hg⟩ := os.cell e (List.mem_append_left _ hem)
      dsimp only at hg
      have a45 := n45.perm (B := cellA q.o (orC q x c1) * (StaA q.t x.sta * (PsA q.m x.ps * (mapA st.next (ones (allB j B ++ (srtL x.sta.l).take t)) * K)))) (by ac_rfl)
      refine ⟨_, ldv1 a45.cells rfl, ?_⟩
      refine (StPeek_spec (e.id : Int) so).retEx n45 ?_
      intro c53 s50 n50
      rw [celR, look_mem hul hem, ec]
      refine ⟨_, _, _, _, _, rfl, ?_⟩
      intro s55 h55
      have n55 := n50.newC [.int .i64 0, .int .i64 0, .lst 1 [] .nil]
      rw [← h55] at n55
      refine ⟨rfl, rfl, _, n55.cells, by decide, ?_⟩
      rw [repl_three]
      intro s57 h57
      have n57 := n55.set (e.cs c53)
      rw [show s55.setC s50.next (e.cs c53) = s57 from h57.symm] at n57
      have a57 := n57.perm (B := cellA q.o (orC q x c1) * (cellA s50.next (e.cs c53) * (StaA q.t x.sta * (PsA q.m x.ps * (mapA st.next (ones (allB j B ++ (srtL x.sta.l).take t)) * K))))) (by ac_rfl)
      refine ⟨_, ldv1 a57.cells rfl, ?_⟩
      refine (PsGet_spec (e.id : Int) po).ret (n57.perm (B := PsA q.m x.ps * (cellA q.o (orC q x c1) * (cellA s50.next (e.cs c53) * (StaA q.t x.sta * (mapA st.next (ones (allB j B ++ (srtL x.sta.l).take t)) * K))))) (by ac_rfl)) ?_
      intro s60 n60
      rw [hg]
      refine ⟨_, _, _, rfl, ?_⟩
      intro s64 h64
      have n64 := n60.newC [.int .i64 0, .int .u64 0]
      rw [← h64] at n64
      refine ⟨rfl, rfl, _, n64.cells, by decide, ?_⟩
      rw [repl_two']
      intro s66 h66
      have n66 := n64.set (posC e.leaf dr)
      rw [show s64.setC s60.next (posC e.leaf dr) = s66 from h66.symm] at n66
      have m66 := n66.perm (B := mapA st.next (ones (allB j B ++ (srtL x.sta.l).take t)) * (cellA s60.next (posC e.leaf dr) * (PsA q.m x.ps * (cellA q.o (orC q x c1) * (cellA s50.next (e.cs c53) * (StaA q.t x.sta * K)))))) (by ac_rfl)
      have hlk : look (allB j B ++ (srtL x.sta.l).take t) e.id = none := look_new hpre
      refine ⟨_, _, mlook_ones m66.maps e.id, _, m66.maps, by rw [lookM_ones]; rfl, ?_⟩
      rw [hlk]
      intro s70 h70
      rw [show IntKind.i64.wrap ((if (none : Option Cel).isSome = true then (1 : Int) else 0) + 1) = 1 from rfl, updM_ones hpre, List.append_assoc, ← estep] at h70
      have n70 := m66.setM (ones (allB j B ++ (srtL x.sta.l).take (t + 1)))
      rw [← h70] at n70
      have b70 := n70.perm (B := cellA s60.next (posC e.leaf dr) * (cellA s50.next (e.cs c53) * (StaA q.t x.sta * (cellA q.o (orC q x c1) * (PsA q.m x.ps * (mapA st.next (ones (allB j B ++ (srtL x.sta.l).take (t + 1))) * K)))))) (by ac_rfl)
      have c70 := b70.perm (B := cellA s50.next (e.cs c53) * (cellA s60.next (posC e.leaf dr) * (StaA q.t x.sta * (cellA q.o (orC q x c1) * (PsA q.m x.ps * (mapA st.next (ones (allB j B ++ (srtL x.sta.l).take (t + 1))) * K)))))) (by ac_rfl)
      intro K74 h74
      refine ⟨fun _ => ⟨_, ldv1 b70.cells rfl, _, ldv1 c70.cells rfl, ?_⟩, fun h => (by cases h)⟩
      refine h74 _ _ ⟨fun h => ?_, fun _ => ⟨x.sta.l.length - (t + 1), by omega, t + 1, by rw [w64 (by omega)]; omega, by omega, rfl, b70.drop.drop⟩⟩
      simp at h
    · have hsl : (srtL x.sta.l).take t = srtL x.sta.l := List.take_of_length_le (by rw [srtL_length]; omega)
      rw [hsl] at n45
      have a45 := n45.perm (B := cellA q.o (orC q x c1) * (StaA q.t x.sta * (PsA q.m x.ps * (mapA st.next (ones (allB j B ++ srtL x.sta.l)) * K)))) (by ac_rfl)
      refine ⟨_, ldv1 a45.cells rfl, ?_⟩
      refine (PsState_spec po).retEx (n45.perm (B := PsA q.m x.ps * (StaA q.t x.sta * (cellA q.o (orC q x c1) * (mapA st.next (ones (allB j B ++ srtL x.sta.l)) * K)))) (by ac_rfl)) ?_
      intro c80 s79 n79
      refine ⟨_, _, rfl, ?_⟩
      rw [By_length, psState_length]
      have hpl := po.long
      have hcnt : ∀ k, cntP x.ps k ≤ k := fun k => by
        unfold cntP
        exact Nat.le_trans (List.length_filter_le _ _) (by rw [List.length_range]; exact Nat.le_refl _)
      refine ⟨fun k c i s => ∃ t : Nat, i = t ∧ t ≤ 12 * x.ps.length ∧ k = 12 * x.ps.length - t ∧ c = (cntP x.ps t : Int) ∧ Now st I (PsA q.m x.ps * (StaA q.t x.sta * (cellA q.o (orC q x c1) * (mapA st.next (ones (allB j B ++ srtL x.sta.l)) * K)))) s,
        ⟨12 * x.ps.length, 0, rfl, by omega, rfl, rfl, n79⟩, ?_⟩
      rintro _ _ _ s85 ⟨t2, rfl, ht2, rfl, rfl, n85⟩
      refine br (fun hlt3 => ?_) fun hge3 => ?_
      · intro K98 h98
        have a85 := n85.perm (B := cellA q.o (orC q x c1) * (PsA q.m x.ps * (StaA q.t x.sta * (mapA st.next (ones (allB j B ++ srtL x.sta.l)) * K)))) (by ac_rfl)
        refine ⟨_, ldv1 a85.cells rfl, ?_⟩
        refine (PsGet_spec (t2 : Int) po).ret n85 ?_
        intro s88 n88
        refine ⟨_, _, _, rfl, ?_⟩
        intro s92 h92
        have n92 := n88.newC [.int .i64 0, .int .u64 0]
        rw [← h92] at n92
        refine ⟨rfl, rfl, _, n92.cells, by decide, ?_⟩
        rw [repl_two']
        intro s94 h94
        have n94 := n92.set (posC ((psGet x.ps t2).getD (0, 0)).1 ((psGet x.ps t2).getD (0, 0)).2)
        rw [show s92.setC s88.next (posC ((psGet x.ps t2).getD (0, 0)).1 ((psGet x.ps t2).getD (0, 0)).2) = s94 from h94.symm] at n94
        have n95 := n94.drop
        have m95 := n95.perm (B := mapA st.next (ones (allB j B ++ srtL x.sta.l)) * (PsA q.m x.ps * (StaA q.t x.sta * (cellA q.o (orC q x c1) * K)))) (by ac_rfl)
        have hc := hcnt t2
        have hcs := cntP_succ x.ps t2
        refine ⟨fun hs => ?_, fun hs => ?_⟩
        · rw [hs, if_pos rfl] at hcs
          obtain ⟨p, hp⟩ := Option.isSome_iff_exists.1 hs
          obtain ⟨e, he, hid⟩ := os.there _ p hp
          have hlk : look (allB j B ++ srtL x.sta.l) t2 = some e := by
            rw [← hid]
            refine look_mem huB ?_
            rcases List.mem_append.1 he with he | he
            · exact List.mem_append_right _ ((srtL_perm hul).mem_iff.2 he)
            · exact List.mem_append_left _ (by rw [hn]; exact he)
          refine ⟨_, _, mlook_ones m95.maps t2, ?_⟩
          rw [hlk]
          refine ⟨fun h => (by simp at h), fun _ => h98 _ _ ⟨12 * x.ps.length - (t2 + 1), by omega, t2 + 1, by rw [w64 (by omega)]; omega, by omega, rfl, ?_, n95⟩⟩
          rw [hcs, w64 (by omega)]; omega
        · rw [hs, if_neg (by decide)] at hcs
          refine h98 _ _ ⟨12 * x.ps.length - (t2 + 1), by omega, t2 + 1, by rw [w64 (by omega)]; omega, by omega, rfl, ?_, n95⟩
          rw [hcs]
      · have e12 : t2 = 12 * x.ps.length := by omega
        subst e12
        have m85 := n85.perm (B := mapA st.next (ones (allB j B ++ srtL x.sta.l)) * (cellA q.o (orC q x c1) * (BkA q.b q.p q.dv bk * (SrcA q.s x.src * (PsA q.m x.ps * (StaA q.t x.sta * (capA c1 * emp))))))) (by rw [hK]; ac_rfl)
        refine ⟨_, m85.maps, ?_⟩
        have hall := cntP_all os
        dsimp only at hall
        have hlen : (ones (allB j B ++ srtL x.sta.l)).length = (allC x.d ⟨x.ps, x.sta.l, B⟩).length := by
          unfold ones allC
          dsimp only
          rw [List.length_map, List.length_append, List.length_append, srtL_length, ← hn]; omega
        rw [hall, hlen]
        refine (Now.toEx bk (Now.toPand ⟨by simp, hbk, htr⟩ (R := emp) ?_)).unemp
        exact orClose (c := c1) m85.drop
end Go.Proofs.YtffenelcgjdbiaaGreatDoor
namespace Go.Proofs.YtffenelcgjdbiaaGreatDoor
open Go Go.Sim
set_option maxRecDepth 100000
theorem now_frame0 {st0 st s : St} {I : Nat → Prop} {A R : Asn} (h : Now st (fun _ => False) A s) (n : Now st0 I R st) : Now st0 I (A * R) s := by
  obtain ⟨J, hA, hm⟩ := h
  exact n.fresh ⟨hm.leX.next, fun i hi => hm.leX.cells i hi fun h => h, fun i hi => hm.leX.maps i hi fun h => h, fun i hi => hm.leX.tok i hi fun h => h⟩ hA fun i hi => (hm.fp i hi).resolve_left fun h => h
def blankB (key : List UInt8) (size : Nat) : Bool := (openL key (List.replicate size 0)).isSome
theorem Blank_spec (key : List UInt8) (size : Nat) (hk : key.length = 32) (hs : size ≤ 60000) (st : St) :
    RCall Tryz.prog F_law10_Blank [.agg (By key), .int .i64 size] st fun r s => r = .ret (.bool (blankB key size)) ∧ st.le s := by
  refine w_law10_Blank ?_
  intro s3 h3
  have c3 : s3.cells st.next = some (By key) := by rw [h3]; exact cells_new _ _
  have l3 : st.le s3 := by rw [h3]; exact (St.le.refl _).new _
  refine ⟨_, ldvg c3 (by simp [hk]), size, rfl, rfl, by omega, ?_⟩
  rw [By_rep]
  refine (ROpen_spec key (List.replicate size 0) .exact hk (by simp; omega) s3).mono ?_
  intro r s7 hr
  unfold OpenR at hr
  unfold blankB
  cases ho : openL key (List.replicate size 0) with
  | none =>
    rw [ho] at hr
    obtain ⟨rfl, hle⟩ := hr
    exact ⟨_, _, _, _, _, rfl, rfl, l3.trans hle⟩
  | some q =>
    obtain ⟨q, b, t⟩ := q
    rw [ho] at hr
    obtain ⟨c', rfl, hle⟩ := hr
    exact ⟨_, _, _, _, _, rfl, rfl, l3.trans hle.le⟩
def og0 (d z size ids : Nat) (tape : List Nat) : Og := ⟨d, z, size, ids, 0, 0, tape, fun _ => none, [], [], fun _ => none⟩
theorem psGet_rep (n : Nat) (i : Int) : psGet (List.replicate n (0, 0)) i = none := by
  unfold psGet
  rw [if_neg]
  rintro ⟨h, h2⟩
  apply h2
  unfold psAt
  rw [List.getD_eq_getElem?_getD, List.getElem?_replicate]
  split <;> rfl
theorem allB_nil (n : Nat) : allB n (fun _ => []) = [] := by
  induction n with
  | zero => rfl
  | succ n ih => rw [allB_succ, ih]; rfl
theorem osOk_new {d size ids : Nat} (hi : ids ≤ 10000) : OsOk d size ⟨List.replicate ids (0, 0), [], fun _ => []⟩ := by
  have e : allC d ⟨List.replicate ids (0, 0), [], fun _ => []⟩ = [] := by unfold allC; rw [allB_nil]; rfl
  have hm : ∀ p ∈ List.replicate ids ((0, 0) : Nat × Nat), p = (0, 0) := fun p hp => (List.mem_replicate.1 hp).2
  refine ⟨⟨⟨by simpa using hi, fun p hp => ?_⟩, fun p hp => ?_⟩, fun i p hp => ?_, ?_, ?_, (fun k _ c hc => nomatch hc), fun i p hp => ?_⟩
  · rw [hm p hp]; exact ⟨Nat.zero_le _, by decide⟩
  · rw [hm p hp]; exact fun _ => rfl
  · rw [psGet_rep] at hp; cases hp
  · rw [e]; exact List.nodup_nil
  · rw [e]; intro c hc; cases hc
  · rw [psGet_rep] at hp; cases hp
def bk0 (key : List UInt8) (d z size : Nat) : Bk := ⟨⟨.new (2 * (2 * 2 ^ d - 1)) (22 + z * (8 + size)), key, 1, 0⟩, 0, List.replicate (2 * 2 ^ d - 1) (true, false)⟩
theorem bkR_new {key : List UInt8} {d z size : Nat} (hk : key.length = 32) (hd : d ≤ 10) (hfit : z * (8 + size) ≤ 50000) (hbl : blankB key (22 + z * (8 + size)) = false) : BkR (bk0 key d z size) 0 (2 * 2 ^ d - 1) z size fun _ => [] := by
  have hpow : 2 ^ d ≤ 2 ^ 10 := Nat.pow_le_pow_right (by decide) hd
  refine ⟨hk, show (1 : Nat) < 2 ^ 32 by decide, Nat.le_refl 0, Nat.le_refl 0, rfl, List.length_replicate, by omega, hfit, rfl, rfl, (fun e he => nomatch he), ?_, (fun _ _ => Nat.zero_le _), (fun _ _ e he => nomatch he)⟩
  intro k hk2
  left
  refine ⟨?_, rfl⟩
  have hbk : (Dk.new (2 * (2 * 2 ^ d - 1)) (22 + z * (8 + size))).block ((2 * k + 1 : Nat) : Int) = List.replicate (22 + z * (8 + size)) 0 := by
    unfold Dk.block Dk.has Dk.new
    rw [if_pos (by dsimp only; rw [decide_eq_true_eq]; omega)]
  have hcur : Bk.cur (bk0 key d z size) k = 2 * k + 1 := by simp [Bk.cur, Bk.blk, Bk.at', bk0, hk2]
  show (openL key ((Dk.new (2 * (2 * 2 ^ d - 1)) (22 + z * (8 + size))).block (Bk.cur _ k : Nat))).map (·.1) = none
  rw [hcur, hbk]
  unfold blankB at hbl
  cases ho : openL key (List.replicate (22 + z * (8 + size)) 0) with
  | none => rfl
  | some q => rw [ho] at hbl; cases hbl
theorem Made_spec (key : List UInt8) (tape : List Nat) (c : Cap) (d z size ids : Nat) (hk : key.length = 32) (htl : tape.length ≤ 2 ^ 40) (hd : d ≤ 10) (hz : z ≤ 16) (hs : size ≤ 60000) (hi : ids ≤ 10000) (hfit : z * (8 + size) ≤ 50000) (st : St) :
    RCall Tryz.prog F_law17_Made [.agg (By key), .lst 1 (U32s tape) c, .int .i64 ids, .int .i64 (2 ^ d : Nat), .int .i64 z, .int .i64 size] st fun r s =>
      if blankB key (22 + z * (8 + size)) then r = .ret (.tup [.nilp, .nilp, .nilp]) ∧ st.le s
      else ∃ q : Oq, r = .ret (.tup [.ptr q.o 0, .ptr q.b 0, .ptr q.dv 0]) ∧ ∀ st0 I R, Now st0 I R st → Now st0 I (OrS q (og0 d z size ids tape) * R) s := by
  have hpow : 2 ^ d ≤ 2 ^ 10 := Nat.pow_le_pow_right (by decide) hd
  have hpow1 : 1 ≤ 2 ^ d := Nat.one_le_two_pow
  refine w_law17_Made ?_
  intro s7 h7
  have c7 : s7.cells st.next = some (By key) := by rw [h7]; exact cells_new _ _
  have l7 : st.le s7 := by rw [h7]; exact (St.le.refl _).new _
  refine (RBuckets_spec (show d ≤ 16 by omega) s7).mono ?_
  rintro _ s9 ⟨rfl, l9⟩
  refine ⟨_, rfl, ?_⟩
  have ew : IntKind.i64.wrap (22 + IntKind.i64.wrap ((z : Int) * IntKind.i64.wrap (8 + (size : Int)))) = ((22 + z * (8 + size) : Nat) : Int) := by
    rw [w64 (n := 8 + (size : Int)) (by omega), show (z : Int) * (8 + (size : Int)) = ((z * (8 + size) : Nat) : Int) by push_cast; rfl]
    generalize z * (8 + size) = q at hfit
    rw [w64 (n := (q : Int)) (by omega), w64 (by omega)]; omega
  rw [ew, show IntKind.i64.wrap (2 * ((2 * 2 ^ d - 1 : Nat) : Int)) = ((2 * (2 * 2 ^ d - 1) : Nat) : Int) by rw [w64 (by omega)]; omega]
  refine (New_spec (2 * (2 * 2 ^ d - 1)) (22 + z * (8 + size)) (by omega) (by omega) s9).mono ?_
  rintro _ s12 ⟨dv, rfl, n12⟩
  refine ⟨_, rfl, ?_⟩
  have l12 : s9.le s12 := by
    obtain ⟨J, _, hm⟩ := n12
    exact ⟨hm.leX.next, fun i hi => hm.leX.cells i hi fun h => h, fun i hi => hm.leX.maps i hi fun h => h, fun i hi => hm.leX.tok i hi fun h => h⟩
  have c12 := (l9.trans l12).getC c7
  refine ⟨_, ldvg c12 (by simp [hk]), ?_⟩
  refine (Blank_spec key _ hk (by omega) s12).mono ?_
  rintro _ s16 ⟨rfl, l16⟩
  refine ⟨_, rfl, ?_⟩
  intro K19 h19
  cases hbl : blankB key (22 + z * (8 + size)) with
  | true =>
    refine ⟨fun h => (by cases h), fun _ => h19 _ _ ⟨fun _ => ?_, fun h => (by cases h)⟩⟩
    rw [if_pos hbl]
    exact ⟨rfl, ((l7.trans l9).trans l12).trans l16⟩
  | false =>
    refine ⟨fun _ => h19 _ _ ⟨fun h => (by cases h), fun _ => ?_⟩, fun h => (by cases h)⟩
    refine ⟨_, ldvg (l16.getC c12) (by simp [hk]), ?_⟩
    refine (PNew_spec dv key 1 hk s16).mono ?_
    rintro _ s23 ⟨p, rfl, hP⟩
    refine ⟨_, rfl, ?_⟩
    refine (BNew_spec p 0 (2 * 2 ^ d - 1) (by omega) (by omega) s23).mono ?_
    rintro _ s26 ⟨b, rfl, hB⟩
    refine ⟨_, rfl, ?_⟩
    refine (Tape_spec tape c htl s26).mono ?_
    rintro _ s29 ⟨sr, rfl, hT⟩
    refine ⟨_, rfl, ?_⟩
    refine (OrNew_spec ⟨0, b, p, dv, sr, 0, 0⟩ ids d z size hi hs s29).mono ?_
    rintro _ s32 ⟨o, m, t, rfl, hO⟩
    refine ⟨_, rfl, ?_⟩
    rw [if_neg (by rw [hbl]; decide)]
    refine ⟨⟨o, b, p, dv, sr, m, t⟩, rfl, ?_⟩
    intro st0 I R n0
    have n9 := n0.le (l7.trans l9)
    have n13 := (now_frame0 n12 n9).le l16
    have n23 := hP _ _ _ n13
    have n23' : Now st0 I (PnA p dv (bk0 key d z size).pn * R) s23 := n23.perm (by unfold PnA; rw [sep_assoc]; rfl)
    have n26 := hB st0 I dv _ R n23'
    have n29 := hT _ _ _ n26
    have n30 : Now st0 I (BkA b p dv (bk0 key d z size) * (SrcA sr ⟨tape, 0⟩ * R)) s29 := n29.perm (by show SrcA sr ⟨tape, 0⟩ * (BkA b p dv (bk0 key d z size) * R) = _; ac_rfl)
    have n32 := hO st0 I _ _ R n30
    have os := osOk_new (d := d) (size := size) hi
    have hdr : DrOk (List.replicate ids (0, 0)) [] 0 := ⟨(fun i p hp => by rw [psGet_rep] at hp; cases hp), (fun i j p q hp => by rw [psGet_rep] at hp; cases hp), List.nodup_nil, fun a ha => nomatch ha⟩
    have inv : Inv (og0 d z size ids tape) ⟨d, z, size, bk0 key d z size, ⟨tape, 0⟩, List.replicate ids (0, 0), ⟨ids, size, []⟩, []⟩ fun _ => [] := by
      refine ⟨rfl, rfl, rfl, rfl, rfl, rfl, rfl, bkR_new hk hd hfit hbl, rfl, os, List.length_replicate, hdr, fun i => ?_, fun i => ?_⟩
      · show Option.map _ (look (allC d _) i) = none
        unfold allC
        dsimp only
        rw [allB_nil]; rfl
      · dsimp only
        rw [psGet_rep]; rfl
    exact Now.toEx (_, fun _ => []) (Now.toPand inv n32)
theorem OrSize {q : Oq} {g : Og} {st s : St} {I : Nat → Prop} {R : Asn} (h : Now st I (OrS q g * R) s) : ∃ x B c, Inv g x B ∧ Now st I (DkA q.dv x.bk.pn.dk * (cellA q.p (pnC q.dv x.bk.pn) * (cellA q.o (orC q x c) * ((ex fun rid => cellA q.b (bkC q.p x.bk rid) * cellA rid (Plc x.bk.l)) * (SrcA q.s x.src * (PsA q.m x.ps * (StaA q.t x.sta * (capA c * R)))))))) s := by
  obtain ⟨w, n1⟩ := h.ex
  obtain ⟨inv, n2⟩ := n1.pand
  obtain ⟨c, n3⟩ := orOpen n2
  obtain ⟨rid, n4⟩ := bkOpen (n3.perm (B := BkA q.b q.p q.dv w.1.bk * (cellA q.o (orC q w.1 c) * (SrcA q.s w.1.src * (PsA q.m w.1.ps * (StaA q.t w.1.sta * (capA c * R)))))) (by ac_rfl))
  refine ⟨w.1, w.2, c, inv, ?_⟩
  have n5 : Now st I ((ex fun rid => cellA q.b (bkC q.p w.1.bk rid) * cellA rid (Plc w.1.bk.l)) * (PnA q.p q.dv w.1.bk.pn * (cellA q.o (orC q w.1 c) * (SrcA q.s w.1.src * (PsA q.m w.1.ps * (StaA q.t w.1.sta * (capA c * R))))))) s :=
    Now.toEx rid (n4.perm (by ac_rfl))
  exact n5.perm (by unfold PnA; ac_rfl)
theorem OrBack {q : Oq} {g : Og} {st s : St} {I : Nat → Prop} {R : Asn} {x : Om} {B : Nat → List Cel} {c : Cap} (inv : Inv g x B)
    (h : Now st I (DkA q.dv x.bk.pn.dk * (cellA q.p (pnC q.dv x.bk.pn) * (cellA q.o (orC q x c) * ((ex fun rid => cellA q.b (bkC q.p x.bk rid) * cellA rid (Plc x.bk.l)) * (SrcA q.s x.src * (PsA q.m x.ps * (StaA q.t x.sta * (capA c * R)))))))) s) : Now st I (OrS q g * R) s := by
  obtain ⟨rid, n1⟩ := (h.perm (B := (ex fun rid => cellA q.b (bkC q.p x.bk rid) * cellA rid (Plc x.bk.l)) * (PnA q.p q.dv x.bk.pn * (cellA q.o (orC q x c) * (SrcA q.s x.src * (PsA q.m x.ps * (StaA q.t x.sta * (capA c * R))))))) (by unfold PnA; ac_rfl)).ex
  refine Now.toEx (x, B) (Now.toPand inv (orClose (c := c) ?_))
  have n2 := bkClose (x := x.bk) (rid := rid) (n1.perm (B := cellA q.b (bkC q.p x.bk rid) * (cellA rid (Plc x.bk.l) * (PnA q.p q.dv x.bk.pn * (cellA q.o (orC q x c) * (SrcA q.s x.src * (PsA q.m x.ps * (StaA q.t x.sta * (capA c * R)))))))) (by ac_rfl))
  exact n2.perm (by ac_rfl)
def trOf (t : List Ev) : List (Int × Int) := t.map fun e => (e.kind, e.at_.tdiv 2)
theorem OrTrace_spec {q : Oq} {g : Og} (gok : GOk g) : Does Tryz.prog F_disk_Disk_Trace [.ptr q.dv 0] (OrS q g) fun r => ex fun w : List Ev × Cap => pand (r = .ret (.lst 15 (Evs w.1) w.2) ∧ trOf w.1 = g.tr) (OrS q g) := by
  intro st I h
  obtain ⟨x, B, c, inv, n1⟩ := OrSize (Now.init h).emp
  have hm := gok.m
  have ht := inv.bk.trace
  refine (Trace_spec inv.bk.ev (by omega)).retEx n1 ?_
  intro c2 s n2
  exact (Now.toEx (x.bk.pn.dk.trace, c2) (Now.toPand ⟨rfl, inv.tr⟩ (OrBack inv n2))).unemp
theorem OrSince_spec {q : Oq} {g : Og} (gok : GOk g) (n : Nat) : Does Tryz.prog F_law6_Since [.ptr q.dv 0, .int .i64 n] (OrS q g) fun r => ex fun w : List Ev × Cap => pand (r = .ret (.lst 15 (Evs w.1) w.2) ∧ trOf w.1 = g.tr.drop n) (OrS q g) := by
  intro st I h
  refine w_law6_Since ?_
  refine (OrTrace_spec gok).call (Now.init h).emp ?_
  intro r s n1
  obtain ⟨⟨t, c⟩, n2⟩ := n1.ex
  obtain ⟨⟨rfl, ht⟩, n3⟩ := n2.pand
  have hl : (Evs t).length = t.length := by simp [Evs]
  refine ⟨_, _, rfl, min n t.length, by rw [hl]; omega, by rw [hl]; omega, ?_⟩
  have e : (Evs t).drop (min n t.length) = Evs (t.drop n) := by
    unfold Evs
    rw [← List.map_drop]
    congr 1
    by_cases h : n ≤ t.length
    · rw [Nat.min_eq_left h]
    · rw [Nat.min_eq_right (by omega), List.drop_length, List.drop_of_length_le (by omega)]
  dsimp only
  rw [e]
  refine (Now.toEx (t.drop n, slCap false c) (Now.toPand ⟨rfl, ?_⟩ n3)).unemp
  dsimp only at ht ⊢
  unfold trOf at ht ⊢
  rw [List.map_drop, ht]
end Go.Proofs.YtffenelcgjdbiaaGreatDoor
namespace Go.Proofs.YtffenelcgjdbiaaGreatDoor
open Go Go.Sim
set_option maxRecDepth 100000
structure Gk (g : Og) (k : Nat) : Prop where
  d : g.d ≤ 10
  z : g.z ≤ 16
  size : g.size ≤ 60000
  ids : g.ids ≤ 10000
  word : ∀ n ∈ g.tape, n < 2 ^ 32
  tape : g.tape.length ≤ 2 ^ 40
  m : g.m ≤ 64 * k
  used : g.used ≤ 2 * k
  shown : g.shown.length ≤ k
theorem Gk.ok {g : Og} {k : Nat} (h : Gk g k) (hk : k ≤ 2 ^ 30) : GOk g :=
  ⟨by have := h.d; omega, h.z, h.size, h.ids, by have := h.m; omega, by have := h.used; omega, h.word, h.tape, by have := h.shown; omega⟩
theorem Gk.acc {g : Og} {k : Nat} (h : Gk g k) (dat : Int → Option (List UInt8)) (id : Int) (leaf : Nat) : Gk (g.acc dat id leaf) (k + 1) := by
  refine ⟨h.d, h.z, h.size, h.ids, h.word, h.tape, ?_, ?_, ?_⟩
  · show g.m + 2 * (g.d + 1) ≤ _
    have := h.m; have := h.d; omega
  · show g.used + 2 ≤ _
    have := h.used; omega
  · show (g.shown ++ [_]).length ≤ _
    have := h.shown
    rw [List.length_append]; simpa using this
theorem Gk.chk {g : Og} {k : Nat} (h : Gk g k) : Gk { g with m := g.m + (2 * 2 ^ g.d - 1), tr := g.tr ++ evR (List.range (2 * 2 ^ g.d - 1)) } (k + 32) := by
  have hpow : 2 ^ g.d ≤ 2 ^ 10 := Nat.pow_le_pow_right (by decide) h.d
  refine ⟨h.d, h.z, h.size, h.ids, h.word, h.tape, ?_, ?_, ?_⟩
  · have := h.m; dsimp only; omega
  · have := h.used; dsimp only; omega
  · have := h.shown; dsimp only; omega
theorem Gk.new {d z size ids : Nat} {tape : List Nat} (hd : d ≤ 10) (hz : z ≤ 16) (hs : size ≤ 60000) (hi : ids ≤ 10000) (hw : ∀ n ∈ tape, n < 2 ^ 32) (ht : tape.length ≤ 2 ^ 40) (k : Nat) : Gk (og0 d z size ids tape) k :=
  ⟨hd, hz, hs, hi, hw, ht, Nat.zero_le _, Nat.zero_le _, Nat.zero_le _⟩
theorem ev_kind (e : Ev) : fldV (e.cells.drop 0) 0 1 false = some (.int .i64 e.kind) := by
  unfold fldV
  rw [if_pos (by simp [Ev.cells])]; rfl
theorem ev_at (e : Ev) : fldV (e.cells.drop 1) 0 1 false = some (.int .i64 e.at_) := by
  unfold fldV
  rw [if_pos (by simp [Ev.cells])]; rfl
theorem Evs_get {t : List Ev} {k : Nat} {e : Ev} (h : t[k]? = some e) : (Evs t)[k]? = some (.agg e.cells) := by
  unfold Evs
  rw [List.getElem?_map, h]; rfl
theorem tr_get {t : List Ev} {k : Nat} {a b : Int} (h : (trOf t)[k]? = some (a, b)) : ∃ e, t[k]? = some e ∧ e.kind = a ∧ e.at_.tdiv 2 = b := by
  unfold trOf at h
  rw [List.getElem?_map] at h
  cases he : t[k]? with
  | none => rw [he] at h; cases h
  | some e => rw [he] at h; cases h; exact ⟨e, rfl, rfl, rfl⟩
def wayT (d leaf : Nat) : List (Int × Int) := evR (onL d leaf) ++ evW (onL d leaf).reverse
theorem wayT_length (d leaf : Nat) : (wayT d leaf).length = 2 * (d + 1) := by simp [wayT, evR, evW]; omega
theorem wayT_R {d leaf i : Nat} (h : i < d + 1) : (wayT d leaf)[i]? = some (1, ((onL d leaf)[i]'(by rw [onL_len]; exact h) : Int)) := by
  have h' : i < (onL d leaf).length := by rw [onL_len]; exact h
  unfold wayT
  rw [List.getElem?_append_left (by simp [evR]; exact h), evR, List.getElem?_map, List.getElem?_eq_getElem h']; rfl
theorem wayT_W {d leaf i : Nat} (h : i < d + 1) : (wayT d leaf)[2 * (d + 1) - 1 - i]? = some (2, ((onL d leaf)[i]'(by rw [onL_len]; exact h) : Int)) := by
  have h' : i < (onL d leaf).length := by rw [onL_len]; exact h
  have e : (evR (onL d leaf)).length = d + 1 := by simp [evR]
  unfold wayT
  have e2 : (onL d leaf).length - 1 - (2 * (d + 1) - 1 - i - (d + 1)) = i := by rw [onL_len]; omega
  rw [List.getElem?_append_right (by omega), e, evW, List.getElem?_map, List.getElem?_reverse (by rw [onL_len]; omega), e2, List.getElem?_eq_getElem h']; rfl
theorem way_spec {d leaf : Nat} (hd : d ≤ 10) (hl : leaf < 2 ^ d) {t : List Ev} (c : Cap) (ht : trOf t = wayT d leaf) (st : St) :
    RCall Tryz.prog F_law17_way [.lst 15 (Evs t) c, .int .i64 (2 ^ d : Nat)] st fun r s => r = .ret (.bool true) ∧ st.le s := by
  have hlen : t.length = 2 * (d + 1) := by
    have := congrArg List.length ht
    rw [wayT_length] at this
    unfold trOf at this
    rwa [List.length_map] at this
  have hpow : 2 ^ d ≤ 2 ^ 10 := Nat.pow_le_pow_right (by decide) hd
  have hb : ∀ l' j, l' < 2 ^ d → ∀ (h : j < (onL d l').length), (onL d l')[j] < 2 ^ 12 := fun l' j hl' h => by
    have hj : j ≤ d := by rw [onL_len] at h; omega
    have := atL_lt hl' hj
    simp only [onL, List.getElem_map, List.getElem_range]
    omega
  refine w_law17_way ?_
  refine (RDepth_spec (show d ≤ 16 by omega) st).mono ?_
  rintro _ s4 ⟨rfl, l4⟩
  refine ⟨_, rfl, ?_⟩
  rw [w64 (n := (d : Int) + 1) (by omega), w64 (n := 2 * ((d : Int) + 1)) (by omega), show (Evs t).length = 2 * (d + 1) by unfold Evs; rw [List.length_map, hlen]]
  rw [show ((((2 * (d + 1) : Nat) : Int)) != 2 * ((d : Int) + 1)) = false by simp]
  refine ⟨fun h => (by cases h), fun _ => ?_⟩
  refine ⟨fun n i s => ∃ k : Nat, i = k ∧ k ≤ leaf ∧ n = leaf - k ∧ st.le s, ⟨leaf, 0, rfl, Nat.zero_le _, rfl, l4⟩, ?_⟩
  rintro _ _ s9 ⟨k, rfl, hk, rfl, l9⟩
  refine br (fun _ => ?_) fun h => by omega
  refine (ROn_spec (show d ≤ 16 by omega) (show k < 2 ^ d by omega) s9).mono ?_
  rintro _ s11 ⟨c12, rfl, o11⟩
  refine ⟨_, _, rfl, ?_⟩
  refine ⟨fun n ok i s => ∃ j : Nat, i = j ∧ j ≤ d + 1 ∧ n = d + 1 - j ∧ (k = leaf → ok = true) ∧ st.le s, ⟨d + 1, 0, rfl, by omega, rfl, fun _ => rfl, l9.trans o11.le⟩, ?_⟩
  rintro _ ok _ s17 ⟨j, rfl, hj, rfl, hok, l17⟩
  refine br (fun hlt => ?_) fun hge => ?_
  · have hj' : j < d + 1 := by omega
    have hjo : j < (onL d k).length := by rw [onL_len]; exact hj'
    have hjl : j < (onL d leaf).length := by rw [onL_len]; exact hj'
    obtain ⟨e1, he1, k1, a1⟩ := tr_get (t := t) (by rw [ht]; exact wayT_R hj')
    obtain ⟨e2, he2, k2, a2⟩ := tr_get (t := t) (by rw [ht]; exact wayT_W hj')
    have hb1 := hb leaf j hl hjl
    have hb2 := hb k j (by omega) hjo
    have hsame : k = leaf → (onL d k)[j] = (onL d leaf)[j] := by intro e; subst e; rfl
    generalize (onL d leaf)[j] = x at k1 a1 k2 a2 hb1 hsame
    have hget : (Is (onL d k))[j]? = some (.int .i64 (onL d k)[j]) := Is_get hjo
    generalize (onL d k)[j] = y at hget hb2 hsame
    have ei : IntKind.i64.wrap (IntKind.i64.wrap (2 * ((d : Int) + 1) - 1) - (j : Int)) = ((2 * (d + 1) - 1 - j : Nat) : Int) := by
      rw [w64 (n := 2 * ((d : Int) + 1) - 1) (by omega), w64 (by omega)]; omega
    intro K22 h22
    have nxt : ∀ b : Bool, (k = leaf → b = true) → (∃ n46, n46 < d + 1 - j ∧ ∃ j' : Nat, IntKind.i64.wrap ((j : Int) + 1) = j' ∧ j' ≤ d + 1 ∧ n46 = d + 1 - j' ∧ (k = leaf → b = true) ∧ st.le s17) := fun b hbb =>
      ⟨d + 1 - (j + 1), by omega, j + 1, by rw [w64 (by omega)]; omega, by omega, rfl, hbb, l17⟩
    refine ⟨fun ht1 => ⟨j, rfl, _, Evs_get he1, Nat.zero_le _, _, ev_kind e1, ?_⟩, fun hf1 => ?_⟩
    · refine h22 _ _ ?_
      intro K30 h30
      refine ⟨fun ht2 => ⟨j, rfl, _, Evs_get he1, by simp [Ev.cells], _, ev_at e1, j, rfl, _, hget, ?_⟩, fun hf2 => ?_⟩
      · refine h30 _ _ ?_
        rw [a1, w64 (n := (x : Int)) (by omega)]
        intro K36 h36
        refine ⟨fun ht3 => ⟨_, ei, _, Evs_get he2, Nat.zero_le _, _, ev_kind e2, ?_⟩, fun hf3 => ?_⟩
        · refine h36 _ _ ?_
          intro K44 h44
          refine ⟨fun ht4 => ⟨_, ei, _, Evs_get he2, by simp [Ev.cells], _, ev_at e2, j, rfl, _, hget, ?_⟩, fun hf4 => h44 _ _ (nxt _ fun e => ?_)⟩
          · rw [a2, w64 (n := (x : Int)) (by omega)]
            exact h44 _ _ (nxt _ fun e => by rw [hsame e]; simp)
          · rw [k2] at hf4; cases hf4
        · refine h36 _ _ ?_
          intro K44 h44
          refine ⟨fun h => (by cases h), fun _ => h44 _ _ (nxt _ fun e => ?_)⟩
          rw [hsame e] at hf3; simp at hf3
      · refine h30 _ _ ?_
        intro K36 h36
        refine ⟨fun h => (by cases h), fun _ => h36 _ _ ?_⟩
        intro K44 h44
        refine ⟨fun h => (by cases h), fun _ => h44 _ _ (nxt _ fun e => ?_)⟩
        rw [k1] at hf2; cases hf2
    · refine h22 _ _ ?_
      intro K30 h30
      refine ⟨fun h => (by cases h), fun _ => h30 _ _ ?_⟩
      intro K36 h36
      refine ⟨fun h => (by cases h), fun _ => h36 _ _ ?_⟩
      intro K44 h44
      refine ⟨fun h => (by cases h), fun _ => h44 _ _ (nxt _ fun e => ?_)⟩
      rw [hok e] at hf1; cases hf1
  · refine ⟨fun _ => ⟨rfl, l17⟩, fun hf => ?_⟩
    have hne : k ≠ leaf := fun e => by rw [hok e] at hf; cases hf
    exact ⟨leaf - (k + 1), by omega, k + 1, by rw [w64 (by omega)]; omega, by omega, rfl, l17⟩
theorem OrS_facts {q : Oq} {g : Og} {st s : St} {I : Nat → Prop} {R : Asn} (h : Now st I (OrS q g * R) s) : g.shown.Nodup ∧ (∀ a ∈ g.shown, a < g.used) ∧ ∀ i x, g.dat i = some x → (1 ≤ i ∧ i ≤ (g.ids : Int)) ∧ x.length = g.size := by
  obtain ⟨w, n1⟩ := h.ex
  obtain ⟨inv, n2⟩ := n1.pand
  refine ⟨inv.dr.nodup, inv.dr.lt, fun i x hx => ?_⟩
  rw [← inv.dat i] at hx
  cases hg : getO g.d ⟨w.1.ps, w.1.sta.l, w.2⟩ i with
  | none => rw [hg] at hx; cases hx
  | some c =>
    obtain ⟨h1, h2⟩ := look_some hg
    obtain ⟨h0, dr, h3⟩ := inv.os.cell c h1
    have h4 := psHas_get h3
    rw [h2] at h4
    simp only [psHas, decide_eq_true_eq] at h4
    have h5 := inv.long
    rw [hg] at hx
    cases hx
    dsimp only at *
    exact ⟨by omega, h0.long⟩
theorem OrCheck_spec {q : Oq} {g : Og} (gok : GOk g) :
    Does Tryz.prog F_oram_Oram_Check [.ptr q.o 0] (OrS q g) fun r => pand (r = .ret (.bool true)) (OrS q { g with m := g.m + (2 * 2 ^ g.d - 1), tr := g.tr ++ evR (List.range (2 * 2 ^ g.d - 1)) }) := by
  intro st I h
  obtain ⟨⟨x, B⟩, n1⟩ := (Now.init h).emp.ex
  obtain ⟨inv, n2⟩ := n1.pand
  obtain ⟨h1, h2, h3, h4, h5, h6, h7, h8, h9, h10, h11, h12, h13, h14⟩ := inv
  dsimp only at h1 h2 h3 h4 h5 h6 h7 h8 h9 h10 h11 h12 h13 h14 n2
  have so : StaOk x.sta := by
    have := staOk_of h10 h11 gok.ids gok.size
    rw [← h5, ← h6] at this
    exact this
  have hm := gok.m
  refine (Check_spec (m := g.m) (n := 2 * 2 ^ g.d - 1) (B := B) (by rw [h1]) (by rw [h1]; exact gok.d) (by rw [h2]; exact gok.z) (by rw [h2, h3]; exact h8) (by omega) (by rw [h1, h3]; exact h10) so (by rw [h6, h3])).call n2 ?_
  intro r s n3
  obtain ⟨bk, n4⟩ := n3.ex
  obtain ⟨⟨rfl, hb, ht⟩, n5⟩ := n4.pand
  rw [h2, h3] at hb
  refine (Now.toPand rfl (Now.toEx (_, B) (Now.toPand ?_ n5))).unemp
  exact ⟨h1, h2, h3, h4, h5, h6, h7, hb, by show bk.tr = g.tr ++ _; rw [ht, h9], h10, h11, h12, h13, h14⟩
theorem bl1 : blankB (List.replicate 32 0) (22 + 2 * (8 + 4)) = false := by decide +kernel
def abcd : List UInt8 := [97, 98, 99, 100]
theorem U64s_get {l : List Nat} {k n : Nat} (h : l[k]? = some n) : (U64s l)[k]? = some (.int .u64 n) := by unfold U64s; rw [List.getElem?_map, h]; rfl
theorem awake_spec (st : St) : RCall Tryz.prog F_law17_awake [] st fun r _ => r = .ret (.bool true) := by
  refine w_law17_awake ?_
  have hM := Made_spec (List.replicate 32 0) [0, 3, 1, 2] .exact 2 2 4 3 (by simp) (by decide) (by decide) (by decide) (by decide) (by decide) (by decide) st
  rw [← By_rep] at hM
  refine hM.mono ?_
  intro r s2 hr
  rw [if_neg (by rw [bl1]; decide)] at hr
  obtain ⟨q, rfl, hN⟩ := hr
  have n2 := hN st (fun _ => False) emp (Now.init rfl)
  refine ⟨_, _, _, rfl, ?_⟩
  have gk0 : Gk (og0 2 2 4 3 [0, 3, 1, 2]) 0 := Gk.new (by decide) (by decide) (by decide) (by decide) (by decide) (by decide) 0
  refine (OrTrace_spec (gk0.ok (by decide))).call n2 ?_
  intro r6 s7 n7a
  obtain ⟨⟨t0, ct0⟩, n7b⟩ := n7a.ex
  obtain ⟨⟨rfl, ht0⟩, n7⟩ := n7b.pand
  dsimp only at ht0 n7 ⊢
  have ht00 : t0 = [] := by
    have : trOf t0 = [] := ht0
    unfold trOf at this
    exact List.map_eq_nil_iff.1 this
  subst ht00
  refine ⟨_, _, rfl, ?_⟩
  refine (OrWrite_spec (gk0.ok (by decide)) 2 abcd .exact).call n7 ?_
  intro r9 s10 n10a
  obtain ⟨leaf1, n10b⟩ := n10a.ex
  obtain ⟨⟨rfl, hleaf1⟩, n10⟩ := n10b.pand
  have gk1 := gk0.acc ((og0 2 2 4 3 [0, 3, 1, 2]).putD 2 abcd) 2 leaf1
  refine ⟨_, rfl, ?_⟩
  refine (OrTrace_spec (gk1.ok (by decide))).call n10 ?_
  intro r12 s13 n13a
  obtain ⟨⟨t1, ct1⟩, n13b⟩ := n13a.ex
  obtain ⟨⟨rfl, ht1⟩, n13⟩ := n13b.pand
  dsimp only at ht1 n13 ⊢
  have ht1 : trOf t1 = wayT 2 leaf1 := ht1
  have hl1 : (Evs t1).length = 6 := by
    have := congrArg List.length ht1
    rw [wayT_length] at this
    unfold trOf at this
    rw [List.length_map] at this
    unfold Evs
    rw [List.length_map, this]
  obtain ⟨e0, he0, k0, _⟩ := tr_get (t := t1) (by rw [ht1]; exact wayT_R (show 0 < 2 + 1 by decide))
  obtain ⟨e3, he3, k3, _⟩ := tr_get (t := t1) (by rw [ht1]; exact wayT_W (show 2 < 2 + 1 by decide))
  refine ⟨_, _, rfl, ?_⟩
  refine (OrRead_spec (gk1.ok (by decide)) 2).call n13 ?_
  intro r15 s16 n16a
  obtain ⟨⟨leaf2, c17⟩, n16b⟩ := n16a.ex
  obtain ⟨⟨rfl, hleaf2⟩, n16⟩ := n16b.pand
  have gk2 := gk1.acc (((og0 2 2 4 3 [0, 3, 1, 2]).acc ((og0 2 2 4 3 [0, 3, 1, 2]).putD 2 abcd) 2 leaf1).dat) 2 leaf2
  dsimp only at n16 ⊢
  refine ⟨_, _, _, rfl, ?_⟩
  refine (OrShown_spec (gk2.ok (by decide))).call n16 ?_
  intro r19 s20 n20a
  obtain ⟨c21, n20b⟩ := n20a.ex
  obtain ⟨rfl, n20⟩ := n20b.pand
  refine ⟨_, _, rfl, ?_⟩
  intro K23 h23
  rw [show (og0 2 2 4 3 [0, 3, 1, 2]).may 2 abcd = true by decide]
  refine ⟨fun _ => ?_, fun h => (by cases h)⟩
  rw [hl1, show (Evs []).length = 0 from rfl]
  refine h23 _ _ ?_
  intro K29 h29
  refine ⟨fun _ => ⟨0, rfl, _, Evs_get he0, Nat.zero_le _, _, ev_kind e0, ?_⟩, fun h => absurd h (by decide)⟩
  rw [k0]
  refine h29 _ _ ?_
  intro K35 h35
  refine ⟨fun _ => ⟨3, rfl, _, Evs_get he3, Nat.zero_le _, _, ev_kind e3, ?_⟩, fun h => (by cases h)⟩
  rw [k3]
  refine h35 _ _ ?_
  intro K38 h38
  refine ⟨fun _ => h38 _ _ ?_, fun h => (by cases h)⟩
  intro K42 h42
  refine ⟨fun _ => ⟨abcd, strOf_By abcd, h42 _ _ ?_⟩, fun h => (by cases h)⟩
  intro K45 h45
  refine ⟨fun _ => h45 _ _ ?_, fun h => absurd h (by decide)⟩
  intro K50 h50
  refine ⟨fun _ => ⟨0, rfl, _, U64s_get (n := 0) rfl, h50 _ _ ?_⟩, fun h => absurd h (by simp [U64s, Og.acc, og0])⟩
  intro K55 h55
  refine ⟨fun _ => ⟨1, rfl, _, U64s_get (n := 1) rfl, h55 _ _ ?_⟩, fun h => (by cases h)⟩
  intro K61 h61
  refine ⟨fun _ => ?_, fun h => (by cases h)⟩
  refine (OrCheck_spec (gk2.ok (by decide))).ret n20 ?_
  intro s58 n58
  refine ⟨_, rfl, h61 _ _ ?_⟩
  intro K67 h67
  refine ⟨fun _ => ?_, fun h => (by cases h)⟩
  have gk3 := gk2.chk
  refine (OrWrite_spec (gk3.ok (by decide)) 4 abcd .exact).call n58 ?_
  intro r63 s64 n64a
  obtain ⟨leaf3, n64b⟩ := n64a.ex
  obtain ⟨⟨rfl, hleaf3⟩, n64⟩ := n64b.pand
  refine ⟨_, rfl, h67 _ _ ?_⟩
  intro K73 h73
  refine ⟨fun _ => ?_, fun h => absurd h (by simp [Og.may, Og.acc, og0])⟩
  refine (OrWrite_spec ((gk3.acc _ 4 leaf3).ok (by decide)) 1 [] .nil).call n64 ?_
  intro r69 s70 n70a
  obtain ⟨leaf4, n70b⟩ := n70a.ex
  obtain ⟨⟨rfl, hleaf4⟩, n70⟩ := n70b.pand
  refine ⟨_, rfl, h73 _ _ ?_⟩
  rfl
end Go.Proofs.YtffenelcgjdbiaaGreatDoor
namespace Go.Proofs.YtffenelcgjdbiaaGreatDoor
open Go Go.Sim
set_option maxRecDepth 100000
theorem iand_le (a : Int) (m : Nat) (hm : m < 2 ^ 62) : ∃ k : Nat, k ≤ m ∧ iand .i64 a m = k := by
  refine ⟨(BitVec.ofInt 64 a &&& BitVec.ofInt 64 m).toNat, ?_, ?_⟩
  · rw [BitVec.toNat_and]
    refine Nat.le_trans Nat.and_le_right ?_
    rw [BitVec.toNat_ofInt]; omega
  · have : (BitVec.ofInt 64 a &&& BitVec.ofInt 64 m).toNat ≤ m := by
      rw [BitVec.toNat_and]
      refine Nat.le_trans Nat.and_le_right ?_
      rw [BitVec.toNat_ofInt]; omega
    show IntKind.i64.wrap (((BitVec.ofInt 64 a &&& BitVec.ofInt 64 m).toNat : Nat) : Int) = _
    rw [w64 (by omega)]
def Dr (q : Oq) (N cnt : Nat) (st : St) (dat : Int → Option (List UInt8)) (s : St) : Prop :=
  ∃ g : Og, Gk g cnt ∧ g.size = 1 ∧ g.ids = N ∧ g.dat = dat ∧ Now st (fun _ => False) (OrS q g * emp) s
theorem Dr.write {q : Oq} {N cnt : Nat} {st s : St} {dat dat' : Int → Option (List UInt8)} (h : Dr q N cnt st dat s) (hc : cnt ≤ 2 ^ 30) {id : Int} (hid : 1 ≤ id ∧ id ≤ N) {b : UInt8} {c : Cap} {K : Res → St → Prop}
    (hd : dat' = fun i => if i = id then some [b] else dat i) (k : ∀ s', Dr q N (cnt + 1) st dat' s' → K (.ret (.bool true)) s') : RCall Tryz.prog F_oram_Oram_Write [.ptr q.o 0, .int .i64 id, .lst 1 (By [b]) c] s K := by
  obtain ⟨g, gk, hz, hi, rfl, n⟩ := h
  refine (OrWrite_spec (gk.ok hc) id [b] c).call n ?_
  intro r s' n1
  obtain ⟨leaf, n2⟩ := n1.ex
  obtain ⟨⟨rfl, hl⟩, n3⟩ := n2.pand
  have hm : g.may id [b] = true := by unfold Og.may; rw [decide_eq_true_eq, hi, hz]; exact ⟨hid.1, hid.2, rfl⟩
  rw [hm]
  refine k s' ⟨_, gk.acc _ id leaf, hz, hi, ?_, n3⟩
  show g.putD id [b] = dat'
  rw [hd, Og.putD, hm]; rfl
theorem Dr.drop {q : Oq} {N cnt : Nat} {st s : St} {dat dat' : Int → Option (List UInt8)} (h : Dr q N cnt st dat s) (hc : cnt ≤ 2 ^ 30) (id : Int) {K : Res → St → Prop}
    (hd : dat' = fun i => if i = id then none else dat i) (k : ∀ s', Dr q N (cnt + 1) st dat' s' → K (.ret (.bool (dat id).isSome)) s') : RCall Tryz.prog F_oram_Oram_Drop [.ptr q.o 0, .int .i64 id] s K := by
  obtain ⟨g, gk, hz, hi, rfl, n⟩ := h
  refine (OrDrop_spec (gk.ok hc) id).call n ?_
  intro r s' n1
  obtain ⟨leaf, n2⟩ := n1.ex
  obtain ⟨⟨rfl, hl⟩, n3⟩ := n2.pand
  exact k s' ⟨_, gk.acc _ id leaf, hz, hi, by rw [hd]; rfl, n3⟩
theorem Dr.read {q : Oq} {N cnt : Nat} {st s : St} {dat : Int → Option (List UInt8)} (h : Dr q N cnt st dat s) (hc : cnt ≤ 2 ^ 30) (id : Int) {K : Res → St → Prop}
    (k : ∀ c s', Dr q N (cnt + 1) st dat s' → K (retO (dat id) c) s') : RCall Tryz.prog F_oram_Oram_Read [.ptr q.o 0, .int .i64 id] s K := by
  obtain ⟨g, gk, hz, hi, rfl, n⟩ := h
  refine (OrRead_spec (gk.ok hc) id).call n ?_
  intro r s' n1
  obtain ⟨⟨leaf, c⟩, n2⟩ := n1.ex
  obtain ⟨⟨rfl, hl⟩, n3⟩ := n2.pand
  exact k c s' ⟨_, gk.acc _ id leaf, hz, hi, rfl, n3⟩
end Go.Proofs.YtffenelcgjdbiaaGreatDoor
namespace Go.Proofs.YtffenelcgjdbiaaGreatDoor
open Go Go.Sim
set_option maxRecDepth 100000
def hvS (dat : Int → Option (List UInt8)) (j : Int) : List UInt8 := match dat j with | some d => 61 :: d | none => []
def hvC (dat : Int → Option (List UInt8)) (N : Nat) : List V := (List.range (N + 1)).map fun (j : Nat) => V.str (hvS dat (j : Int))
theorem hvC_length (dat : Int → Option (List UInt8)) (N : Nat) : (hvC dat N).length = N + 1 := by simp [hvC]
theorem hvC_get {dat : Int → Option (List UInt8)} {N j : Nat} (h : j ≤ N) : (hvC dat N)[j]? = some (.str (hvS dat j)) := by
  unfold hvC
  rw [List.getElem?_map, List.getElem?_range (by omega)]; rfl
theorem hvC_congr {dat dat' : Int → Option (List UInt8)} {N : Nat} (h : ∀ j : Nat, j ≤ N → hvS dat' j = hvS dat j) : hvC dat' N = hvC dat N := by
  unfold hvC
  refine List.map_congr_left fun j hj => ?_
  rw [List.mem_range] at hj
  rw [h j (by omega)]
theorem hvC_set {dat dat' : Int → Option (List UInt8)} {N k : Nat} (hk : k ≤ N) {s : List UInt8} (h1 : hvS dat' k = s) (h : ∀ j : Nat, j ≤ N → j ≠ k → hvS dat' j = hvS dat j) : (hvC dat N).set k (.str s) = hvC dat' N := by
  refine List.ext_getElem? fun j => ?_
  rw [List.getElem?_set, hvC_length]
  by_cases hj : j ≤ N
  · rw [hvC_get hj]
    by_cases hjk : k = j
    · subst hjk; rw [if_pos rfl, if_pos (by omega), hvC_get hj, h1]
    · rw [if_neg hjk, hvC_get hj, h j hj (fun e => hjk e.symm)]
  · rw [List.getElem?_eq_none (by rw [hvC_length]; omega), if_neg (by omega), List.getElem?_eq_none (by rw [hvC_length]; omega)]
def onesU (l : List Nat) : List (V × V) := l.map fun (n : Nat) => (.int .u64 n, .int .i64 1)
theorem lookM_onesU (l : List Nat) (n : Nat) : lookM (onesU l) .u64 (n : Int) = some (if n ∈ l then some (.int .i64 1) else none) := by
  induction l with
  | nil => rfl
  | cons x r ih =>
    show (if IntKind.u64 = IntKind.u64 then (if (n : Int) = (x : Int) then some (some (V.int .i64 1)) else lookM (onesU r) .u64 n) else none) = _
    rw [if_pos rfl]
    by_cases h : n = x
    · rw [if_pos (by omega), if_pos (by rw [h]; exact List.mem_cons_self ..)]
    · rw [if_neg (by omega), ih]
      by_cases h2 : n ∈ r
      · rw [if_pos h2, if_pos (List.mem_cons_of_mem _ h2)]
      · rw [if_neg h2, if_neg fun h3 => (List.mem_cons.1 h3).elim h h2]
theorem updM_onesU {l : List Nat} {n : Nat} (h : n ∉ l) : updM (onesU l) .u64 (n : Int) (.int .i64 1) = onesU (l ++ [n]) := by
  induction l with
  | nil => rfl
  | cons x r ih =>
    show (if (n : Int) = (x : Int) then _ else (V.int .u64 x, V.int .i64 1) :: updM (onesU r) .u64 n (.int .i64 1)) = _
    rw [if_neg fun e => h (List.mem_cons.2 (.inl (by omega))), ih fun h2 => h (List.mem_cons_of_mem _ h2)]; rfl
theorem mlook_onesU {st : St} {m : Nat} {l : List Nat} (h : st.maps m = some (onesU l)) {n : Nat} (hn : n ∉ l) : st.mlook m .u64 (n : Int) (.int .i64 0) = some (.int .i64 0, false) := by
  unfold St.mlook
  rw [h]
  simp only [Option.bind_some, lookM_onesU, if_neg hn, Option.map_some]; rfl
structure Plo (d Z N : Nat) (tape : List Nat) (q0 q : Oq) (g : Og) (k : Nat) : Prop where
  gk : Gk g k
  gd : g.d = d
  gz : g.z = Z
  gs : g.size = 3
  gi : g.ids = N
  gt : g.tape = tape
  qb : q.b = q0.b
  qd : q.dv = q0.dv
theorem Plo.acc {d Z N : Nat} {tape : List Nat} {q0 q : Oq} {g : Og} {k : Nat} (h : Plo d Z N tape q0 q g k) (dat : Int → Option (List UInt8)) (id : Int) (leaf : Nat) : Plo d Z N tape q0 q (g.acc dat id leaf) (k + 1) :=
  ⟨h.gk.acc dat id leaf, h.gd, h.gz, h.gs, h.gi, h.gt, h.qb, h.qd⟩
structure Stp where
  kind : Int
  id : Int
  b : List UInt8
def Stp.v (x : Stp) : V := .agg [.int .i64 x.kind, .int .i64 x.id, .lst 1 (By x.b) .unk]
def Stps (l : List Stp) : List V := l.map Stp.v
theorem OramPlays_spec (key : List UInt8) (hk : key.length = 32) (tape : List Nat) (hw : ∀ n ∈ tape, n < 2 ^ 32) (c : Cap) (ids bits z : Int) (l : List Stp) (cl : Cap) (st : St) :
    RCall Tryz.prog F_law17_OramPlays [.agg (By key), .lst 1 (U32s tape) c, .int .i64 ids, .int .i64 bits, .int .i64 z, .lst 3 (Stps l) cl] st fun r _ => r = .ret (.bool true) := by
  refine w_law17_OramPlays ?_
  intro s7 h7
  have c7 : s7.cells st.next = some (By key) := by rw [h7]; exact cells_new _ _
  rw [show (U32s tape).length = tape.length by simp [U32s]]
  refine br (fun _ => ?_) fun hle => ?_
  · refine (awake_spec s7).mono ?_
    rintro _ s rfl
    exact ⟨_, rfl, rfl⟩
  obtain ⟨kb, hkb, ekb⟩ := iand_le bits 3 (by decide)
  obtain ⟨kn, hkn, ekn⟩ := iand_le ids 7 (by decide)
  obtain ⟨kz, hkz, ekz⟩ := iand_le z 3 (by decide)
  have ekb : iand .i64 bits 3 = kb := ekb
  have ekn : iand .i64 ids 7 = kn := ekn
  have ekz : iand .i64 z 3 = kz := ekz
  have hpw : 2 ^ kb ≤ 2 ^ 3 := Nat.pow_le_pow_right (by decide) hkb
  have eL : IntKind.i64.wrap (1 * 2 ^ (min (Int.toNat (IntKind.u64.wrap (kb : Int))) 64)) = ((2 ^ kb : Nat) : Int) := by
    rcases (show kb = 0 ∨ kb = 1 ∨ kb = 2 ∨ kb = 3 by omega) with h | h | h | h <;> rw [h] <;> rfl
  rw [ekb, ekn, ekz, eL, show IntKind.i64.wrap ((kn : Int) + 1) = ((kn + 1 : Nat) : Int) by rw [w64 (by omega)]; omega, show IntKind.i64.wrap ((kz : Int) + 1) = ((kz + 1 : Nat) : Int) by rw [w64 (by omega)]; omega]
  generalize hN : kn + 1 = N
  generalize hZ : kz + 1 = Z
  have hN1 : 1 ≤ N ∧ N ≤ 8 := by omega
  have hZ1 : 1 ≤ Z ∧ Z ≤ 4 := by omega
  refine ⟨by rw [wu64 (by omega)]; omega, _, ldvg c7 (by simp [hk]), ?_⟩
  refine (Made_spec key tape c kb Z 3 N hk (by omega) (by omega) (by omega) (by decide) (by omega) (by omega) s7).mono ?_
  intro r12 s13 hr
  cases hbl : blankB key (22 + Z * (8 + 3)) with
  | true =>
    rw [if_pos hbl] at hr
    obtain ⟨rfl, l13⟩ := hr
    refine ⟨_, _, _, rfl, true, rfl, rfl, fun _ => ?_, fun h => (by cases h)⟩
    refine ⟨_, ldvg (l13.getC c7) (by simp [hk]), ?_⟩
    rw [show IntKind.i64.wrap (22 + IntKind.i64.wrap ((Z : Int) * 11)) = ((22 + Z * (8 + 3) : Nat) : Int) by rw [w64 (n := (Z : Int) * 11) (by omega), w64 (by omega)]; omega]
    refine (Blank_spec key _ hk (by omega) s13).mono ?_
    rintro _ s20 ⟨rfl, l20⟩
    refine ⟨_, rfl, ?_⟩
    intro K26 h26
    rw [hbl]
    refine ⟨fun _ => ?_, fun h => (by cases h)⟩
    refine (awake_spec s20).mono ?_
    rintro _ s23 rfl
    exact ⟨_, rfl, h26 _ _ rfl⟩
  | false =>
    rw [if_neg (by rw [hbl]; decide)] at hr
    obtain ⟨q0, rfl, hM⟩ := hr
    refine ⟨_, _, _, rfl, false, rfl, rfl, fun h => (by cases h), fun _ => ?_⟩
    refine (Tape_spec tape c (by omega) s13).mono ?_
    rintro _ s29 ⟨sp, rfl, hT⟩
    refine ⟨_, rfl, N + 1, N + 1, by rw [w64 (by omega)]; omega, by rw [w64 (by omega)]; omega, Nat.le_refl _, by omega, ?_⟩
    have efl : (List.replicate (N + 1) [V.str []]).flatten = hvC (fun _ => none) N := by
      unfold hvC
      generalize N + 1 = m
      induction m with
      | zero => rfl
      | succ m ih => rw [List.range_succ, List.map_append, ← ih, List.replicate_succ', List.flatten_append]; rfl
    rw [efl]
    intro s33 h33
    have n33 := (hT _ _ _ (hM s7 (fun _ => False) emp (Now.init rfl))).newC (hvC (fun _ => none) N)
    rw [← h33] at n33
    refine ⟨fun t o used i s => ∃ k : Nat, i = k ∧ k ≤ 40 ∧ t = 40 - k ∧ ∃ (q : Oq) (g : Og) (X : Asn), o = .ptr q.o 0 ∧ used = (g.used : Int) ∧ Plo kb Z N tape q0 q g k ∧ (q.s = sp ∧ X = emp ∨ X = SrcA sp ⟨tape, 0⟩) ∧
        Now s7 (fun _ => False) (OrS q g * (cellA s29.next (hvC g.dat N) * X)) s,
      ⟨40, 0, rfl, by omega, rfl, q0, og0 kb Z 3 N tape, SrcA sp ⟨tape, 0⟩, rfl, rfl, ⟨Gk.new (by omega) (by omega) (by decide) (by omega) hw (by omega) 0, rfl, rfl, rfl, rfl, rfl, rfl, rfl⟩, .inr rfl,
        n33.perm (B := OrS q0 (og0 kb Z 3 N tape) * (cellA s29.next (hvC (fun _ => none) N) * SrcA sp ⟨tape, 0⟩)) (by rw [sep_emp]; ac_rfl)⟩, ?_⟩
    rintro _ _ _ _ s39 ⟨k, rfl, hk40, rfl, q, g, X, rfl, rfl, pl, hX, n39⟩
    intro K41 h41
    have gok : GOk g := pl.gk.ok (by omega)
    have hfacts := OrS_facts n39
    have final : K41 false s39 := by
      refine h41 _ _ ⟨fun h => (by cases h), fun _ => ?_⟩
      intro s141 h141
      have n141 := n39.newM
      rw [← h141] at n141
      refine (OrShown_spec gok).retEx (n141.perm (B := OrS q g * (mapA s39.next (onesU []) * (cellA s29.next (hvC g.dat N) * X))) (by show mapA s39.next [] * (OrS q g * (cellA s29.next (hvC g.dat N) * X)) = OrS q g * (mapA s39.next [] * (cellA s29.next (hvC g.dat N) * X)); ac_rfl)) ?_
      intro c144 s143 n143
      refine ⟨_, _, rfl, ?_⟩
      rw [show (U64s g.shown).length = g.shown.length by simp [U64s]]
      have hsl := pl.gk.shown
      refine ⟨fun t i s => ∃ j : Nat, i = j ∧ j ≤ g.shown.length ∧ t = g.shown.length - j ∧ Now s7 (fun _ => False) (OrS q g * (mapA s39.next (onesU (g.shown.take j)) * (cellA s29.next (hvC g.dat N) * X))) s, ⟨g.shown.length, 0, rfl, by omega, rfl, n143⟩, ?_⟩
      rintro _ _ s148 ⟨j, rfl, hj, rfl, n148⟩
      refine br (fun hlt => ?_) fun hge => ?_
      · have hj' : j < g.shown.length := by omega
        refine ⟨j, rfl, _, U64s_get (List.getElem?_eq_getElem hj'), ?_⟩
        have m148 := n148.perm (B := mapA s39.next (onesU (g.shown.take j)) * (OrS q g * (cellA s29.next (hvC g.dat N) * X))) (by ac_rfl)
        have hnew : g.shown[j] ∉ g.shown.take j := by
          intro hm
          obtain ⟨i, hi, e⟩ := List.mem_iff_getElem.1 hm
          rw [List.length_take] at hi
          rw [List.getElem_take] at e
          have := (List.nodup_iff_pairwise_ne.1 hfacts.1)
          have := (List.pairwise_iff_getElem.1 this) i j (by omega) hj' (by omega)
          exact this e
        refine ⟨_, _, mlook_onesU m148.maps hnew, ?_⟩
        intro K154 h154
        refine ⟨fun _ => ?_, fun h => absurd h (by decide)⟩
        have hlt2 := hfacts.2.1 g.shown[j] (List.getElem_mem hj')
        rw [show decide (((g.shown[j] : Nat) : Int) ≥ (g.used : Int)) = false by simp; omega]
        refine h154 _ _ ⟨fun h => (by cases h), fun _ => ⟨_, m148.maps, by rw [lookM_onesU]; rfl, ?_⟩⟩
        intro s157 h157
        rw [updM_onesU hnew, ← List.take_succ_eq_append_getElem hj'] at h157
        have n157 := m148.setM (onesU (g.shown.take (j + 1)))
        rw [← h157] at n157
        exact ⟨g.shown.length - (j + 1), by omega, j + 1, by rw [w64 (by omega)]; omega, by omega, rfl, n157.perm (by ac_rfl)⟩
      · refine (OrCheck_spec gok).ret n148 ?_
        intro s160 n160
        refine ⟨_, rfl, ?_⟩
        intro K166 h166
        refine ⟨fun _ => ?_, fun h => (by cases h)⟩
        refine (awake_spec s160).mono ?_
        rintro _ s163 rfl
        exact ⟨_, rfl, h166 _ _ rfl⟩
    rw [show (Stps l).length = l.length by simp [Stps]]
    refine br (fun hlt => ?_) fun _ => final
    by_cases hk2 : (k : Int) < 40
    rotate_left
    · rw [decide_eq_false hk2]; exact final
    rw [decide_eq_true hk2]
    refine h41 _ _ ⟨fun _ => ?_, fun h => (by cases h)⟩
    intro K138 h138
    have hkl : k < l.length := by omega
    have hget : (Stps l)[k]? = some (.agg [.int .i64 l[k].kind, .int .i64 l[k].id, .lst 1 (By l[k].b) .unk]) := by
      unfold Stps
      rw [List.getElem?_map, List.getElem?_eq_getElem hkl]; rfl
    generalize l[k] = x at hget
    refine ⟨k, rfl, _, _, _, _, hget, ?_⟩
    obtain ⟨m, hm, em⟩ := iand_le x.id 15 (by decide)
    have em : iand .i64 x.id 15 = m := em
    rw [em, w64 (n := (m : Int) - 2) (by omega)]
    generalize hid : (m : Int) - 2 = id
    have hidr : -2 ≤ id ∧ id ≤ 13 := by omega
    intro K48 h48
    have nextJ : ∀ (q' : Oq) (g' : Og) (X' : Asn) (s : St), Plo kb Z N tape q0 q' g' (k + 1) → (q'.s = sp ∧ X' = emp ∨ X' = SrcA sp ⟨tape, 0⟩) → Now s7 (fun _ => False) (OrS q' g' * (cellA s29.next (hvC g'.dat N) * X')) s → K138 (.ptr q'.o 0) (g'.used : Int) s :=
      fun q' g' X' s pl' hX' n' => h138 _ _ _ ⟨40 - (k + 1), by omega, k + 1, by rw [w64 (by omega)]; omega, by omega, rfl, q', g', X', rfl, rfl, pl', hX', n'⟩
    have hused := pl.gk.used
    have k48 : K48 (decide (1 ≤ id ∧ id ≤ (N : Int))) s39 := by
      refine h48 _ _ ?_
      rw [← pl.qd]
      refine (OrTrace_spec gok).call n39 ?_
      intro r50 s51 n51a
      obtain ⟨⟨t, ct⟩, n51b⟩ := n51a.ex
      obtain ⟨⟨rfl, htr⟩, n51⟩ := n51b.pand
      dsimp only at htr n51 ⊢
      refine ⟨_, _, rfl, ?_⟩
      intro K128 h128
      have etl : (Evs t).length = g.tr.length := by
        have := congrArg List.length htr
        unfold trOf at this
        rw [List.length_map] at this
        unfold Evs
        rw [List.length_map, this]
      have k128 : ∀ (dat' : Int → Option (List UInt8)) (i' : Int) (leaf : Nat) (s : St), leaf < 2 ^ g.d → Now s7 (fun _ => False) (OrS q (g.acc dat' i' leaf) * (cellA s29.next (hvC dat' N) * X)) s → K128 (.ptr q.o 0) s := by
        intro dat' i' leaf s hleaf n
        refine h128 _ _ ?_
        rw [etl]
        have pl' := pl.acc dat' i' leaf
        refine (OrSince_spec (pl'.gk.ok (by omega)) g.tr.length).call n ?_
        intro r130 s131 n131a
        obtain ⟨⟨t2, ct2⟩, n131b⟩ := n131a.ex
        obtain ⟨⟨rfl, htr2⟩, n131⟩ := n131b.pand
        dsimp only at htr2 n131 ⊢
        refine ⟨_, _, rfl, ?_⟩
        have e2 : trOf t2 = wayT g.d leaf := by
          rw [htr2]
          show (g.tr ++ _).drop _ = _
          rw [List.drop_left' rfl]; rfl
        rw [pl.gd] at e2 hleaf
        refine (way_spec (show kb ≤ 10 by omega) hleaf ct2 e2 s131).mono ?_
        rintro _ s134 ⟨rfl, l134⟩
        refine ⟨_, rfl, fun h => (by cases h), fun _ => ?_⟩
        rw [wu64 (n := (g.used : Int) + 2) (by omega)]
        exact nextJ q (g.acc dat' i' leaf) X s134 pl' hX (n131.le l134)
      refine ⟨k, rfl, _, _, _, _, hget, ?_⟩
      have hdat0 : ∀ i : Int, ¬ (1 ≤ i ∧ i ≤ (N : Int)) → g.dat i = none := fun i hi => by
        cases e : g.dat i with
        | none => rfl
        | some y => exact absurd (by rw [← pl.gi]; exact (hfacts.2.2 i y e).1) hi
      have hhv : ∀ i : Int, (!(hvS g.dat i == [])) = (g.dat i).isSome := fun i => by
        unfold hvS; cases g.dat i <;> rfl
      refine breq (fun _ => ?_) fun _ => ?_
      · 
        refine (OrDrop_spec gok id).call n51 ?_
        intro r57 s58 n58a
        obtain ⟨leaf, n58b⟩ := n58a.ex
        obtain ⟨⟨rfl, hleaf⟩, n58⟩ := n58b.pand
        refine ⟨_, rfl, ?_⟩
        intro K63 h63
        have m58 := n58.perm (B := cellA s29.next (hvC g.dat N) * (OrS q (g.acc (g.delD id) id leaf) * X)) (by ac_rfl)
        have hne : ∀ j : Nat, (j : Int) ≠ id → hvS (g.delD id) j = hvS g.dat j := fun j hj => by unfold hvS Og.delD; rw [if_neg hj]
        by_cases hin : 1 ≤ id ∧ id ≤ (N : Int)
        · obtain ⟨i, rfl⟩ : ∃ i : Nat, id = i := ⟨id.toNat, by omega⟩
          rw [decide_eq_true hin]
          refine ⟨fun _ => ⟨i, rfl, by omega, _, ldv1 m58.cells (by rw [Nat.zero_add, Nat.mul_one]; exact hvC_get (by omega)), ?_⟩, fun h => (by cases h)⟩
          refine h63 _ _ ?_
          rw [hhv]
          refine ⟨fun h => (by simp at h), fun _ => ⟨fun _ => ⟨i, rfl, by omega, _, m58.cells, by rw [hvC_length]; omega, ?_⟩, fun h => absurd hin (of_decide_eq_false h)⟩⟩
          intro s67 h67
          rw [Nat.zero_add, Nat.mul_one, hvC_set (dat' := g.delD i) (by omega) (by unfold hvS Og.delD; rw [if_pos rfl]) (fun j _ hj => hne j (by omega))] at h67
          have n67 := m58.set (hvC (g.delD i) N)
          rw [← h67] at n67
          exact k128 _ _ _ _ hleaf (n67.perm (by ac_rfl))
        · rw [decide_eq_false hin]
          refine ⟨fun h => (by cases h), fun _ => h63 _ _ ?_⟩
          rw [hdat0 id hin]
          refine ⟨fun h => (by cases h), fun _ => ⟨fun h => absurd (of_decide_eq_true h) hin, fun _ => ?_⟩⟩
          refine k128 (g.delD id) id leaf s58 hleaf ?_
          rw [hvC_congr (dat' := g.delD id) (dat := g.dat) fun j hj => ?_]
          · exact n58
          · by_cases hj2 : (j : Int) = id
            · unfold hvS Og.delD
              rw [if_pos hj2, hdat0 j (by rw [hj2]; exact hin)]
            · exact hne j hj2
      refine breq (fun _ => ?_) fun _ => ?_
      · 
        refine (OrDummy_spec gok).call n51 ?_
        intro r68 s69 n69a
        obtain ⟨leaf, n69b⟩ := n69a.ex
        obtain ⟨⟨rfl, hleaf⟩, n69⟩ := n69b.pand
        exact ⟨rfl, k128 g.dat 0 leaf s69 hleaf n69⟩
      refine breq (fun _ => ?_) fun _ => ?_
      · 
        obtain ⟨⟨y, B⟩, n52⟩ := n51.ex
        obtain ⟨inv, n53⟩ := n52.pand
        dsimp only at inv n53
        have so : StaOk y.sta := by
          have := staOk_of inv.os inv.long gok.ids gok.size
          rw [← inv.most, ← inv.ssz] at this
          exact this
        have hul := inv.os.uid.left
        dsimp only at hul
        refine (OrState_spec inv.os.full.ok so hul).retEx n53 ?_
        intro c72 s71 n71
        refine ⟨_, _, rfl, ?_⟩
        obtain ⟨co, n72⟩ := orOpen n71
        rw [← pl.qb]
        refine (BCommit_spec (by rw [inv.bk.len]; exact inv.bk.small)).ret (n72.perm (B := BkA q.b q.p q.dv y.bk * (cellA q.o (orC q y co) * (SrcA q.s y.src * (PsA q.m y.ps * (StaA q.t y.sta * (capA co * (cellA s29.next (hvC g.dat N) * X))))))) (by ac_rfl)) ?_
        intro s74 n74
        refine ⟨rfl, ?_⟩
        have hsrc : ∃ (u : Nat) (R0 : Asn), Now s7 (fun _ => False) (SrcA sp ⟨tape, u⟩ * (BkA q.b q.p q.dv y.bk.commit * (cellA s29.next (hvC g.dat N) * R0))) s74 := by
          rcases hX with ⟨e1, e2⟩ | e2
          · refine ⟨g.used, cellA q.o (orC q y co) * (PsA q.m y.ps * (StaA q.t y.sta * (capA co * emp))), n74.perm ?_⟩
            rw [inv.src, e1, e2, pl.gt]
            ac_rfl
          · refine ⟨0, cellA q.o (orC q y co) * (SrcA q.s y.src * (PsA q.m y.ps * (StaA q.t y.sta * capA co))), n74.perm ?_⟩
            rw [e2]
            ac_rfl
        obtain ⟨u, R0, n75⟩ := hsrc
        refine (Seek_spec g.used).ret n75 ?_
        intro s76 n76
        refine ⟨rfl, ?_⟩
        refine (OrNew_spec ⟨0, q.b, q.p, q.dv, sp, 0, 0⟩ N kb Z 3 (by omega) (by decide) s76).mono ?_
        rintro _ s78 ⟨o, mp, tp, rfl, hO⟩
        refine ⟨_, rfl, ?_⟩
        have n78 := hO _ _ y.bk.commit ⟨tape, g.used⟩ (cellA s29.next (hvC g.dat N) * R0) (n76.perm (by ac_rfl))
        have est : stateL y = psState y.ps ++ stL N 3 (srtL y.sta.l) := by unfold stateL; rw [inv.most, inv.ssz, pl.gi, pl.gs]
        rw [est]
        have os := inv.os
        have so3 : StaOk ⟨N, 3, srtL y.sta.l⟩ := by
          have e1 : y.sta.most = N := by rw [inv.most, pl.gi]
          have e2 : y.sta.size = 3 := by rw [inv.ssz, pl.gs]
          refine ⟨by show N ≤ _; omega, by show 3 ≤ _; decide, fun e he => ?_, ?_⟩
          · have := so.ok e ((srtL_perm hul).mem_iff.1 he)
            rw [e2] at this; exact this
          · show (srtL y.sta.l).length ≤ N
            rw [srtL_length, ← e1]; exact so.long
        have po0 : PsOk (List.replicate N ((0, 0) : Nat × Nat)) := (osOk_new (d := kb) (size := 3) (by omega : N ≤ 10000)).full.ok
        have hlenp : y.ps.length = (List.replicate N ((0, 0) : Nat × Nat)).length := by rw [List.length_replicate, inv.long, pl.gi]
        refine (OrLoad_spec (x := ⟨kb, Z, 3, y.bk.commit, ⟨tape, g.used⟩, List.replicate N (0, 0), ⟨N, 3, []⟩, []⟩) (ps' := y.ps) (l' := srtL y.sta.l) c72 po0 hlenp os.full so3 (srtL_sorted hul)).ret n78 ?_
        intro s81 n81
        refine ⟨_, rfl, ?_⟩
        intro K87 h87
        refine ⟨fun _ => ?_, fun h => (by cases h)⟩
        have hmove := os.move (y' := ⟨y.ps, srtL y.sta.l, B⟩) rfl ((srtL_perm hul).append_right _) os.on
        have inv2 : Inv { g with shown := [] } ⟨kb, Z, 3, y.bk.commit, ⟨tape, g.used⟩, y.ps, ⟨N, 3, srtL y.sta.l⟩, []⟩ B := by
          refine ⟨pl.gd.symm, pl.gz.symm, pl.gs.symm, by rw [← pl.gt], pl.gi.symm, pl.gs.symm, rfl, inv.bk.commit, inv.tr, hmove.1, inv.long, ⟨?_, inv.dr.one, List.nodup_nil, fun a ha => nomatch ha⟩, fun i => ?_, inv.pd⟩
          · intro i p hp
            exact ⟨(inv.dr.kept i p hp).1, fun h => nomatch h⟩
          · show Option.map _ (getO g.d _ i) = _
            rw [hmove.2 i]; exact inv.dat i
        have n82 : Now s7 (fun _ => False) (OrS ⟨o, q.b, q.p, q.dv, sp, mp, tp⟩ { g with shown := [] } * (cellA s29.next (hvC g.dat N) * emp)) s81 := by
          have n83 := (n81.perm (B := R0 * (OrA ⟨o, q.b, q.p, q.dv, sp, mp, tp⟩ ⟨kb, Z, 3, y.bk.commit, ⟨tape, g.used⟩, y.ps, ⟨N, 3, srtL y.sta.l⟩, []⟩ * cellA s29.next (hvC g.dat N))) (by ac_rfl)).drop
          have n84 : Now s7 (fun _ => False) (OrA ⟨o, q.b, q.p, q.dv, sp, mp, tp⟩ ⟨kb, Z, 3, y.bk.commit, ⟨tape, g.used⟩, y.ps, ⟨N, 3, srtL y.sta.l⟩, []⟩ * (cellA s29.next (hvC g.dat N) * emp)) s81 := n83.perm (by rw [sep_emp])
          exact Now.toEx (_, B) (Now.toPand inv2 n84)
        have pl2 : Plo kb Z N tape q0 ⟨o, q.b, q.p, q.dv, sp, mp, tp⟩ { g with shown := [] } (k + 1) :=
          ⟨⟨pl.gk.d, pl.gk.z, pl.gk.size, pl.gk.ids, pl.gk.word, pl.gk.tape, by have := pl.gk.m; dsimp only; omega, by dsimp only; omega, Nat.zero_le _⟩, pl.gd, pl.gz, pl.gs, pl.gi, pl.gt, pl.qb, pl.qd⟩
        refine (OrShown_spec (pl2.gk.ok (by omega))).retEx n82 ?_
        intro c85 s84 n84
        refine ⟨_, _, rfl, h87 _ _ ⟨fun h => absurd h (by simp [U64s]), fun _ => ?_⟩⟩
        exact nextJ _ _ emp s84 pl2 (.inl ⟨rfl, rfl⟩) n84
      intro K90 h90
      have rd : K90 true s51 := by
        refine h90 _ _ ⟨fun _ => ?_, fun h => (by cases h)⟩
        refine (OrRead_spec gok id).call n51 ?_
        intro r92 s93 n93a
        obtain ⟨⟨leaf, c94⟩, n93b⟩ := n93a.ex
        obtain ⟨⟨rfl, hleaf⟩, n93⟩ := n93b.pand
        dsimp only at hleaf n93 ⊢
        refine ⟨_, _, _, rfl, ?_⟩
        intro K99 h99
        have fin : K128 (.ptr q.o 0) s93 := k128 g.dat id leaf s93 hleaf n93
        have m93 := n93.perm (B := cellA s29.next (hvC g.dat N) * (OrS q (g.acc g.dat id leaf) * X)) (by ac_rfl)
        have k99 : K99 (g.dat id).isSome s93 := by
          refine h99 _ _ ?_
          intro K105 h105
          have k105 : K105 false s93 := h105 _ _ ⟨fun h => (by cases h), fun _ => fin⟩
          refine ⟨fun _ => ⟨fun hs => ?_, fun _ => k105⟩, fun h => (by simp at h)⟩
          obtain ⟨dd, hdd⟩ := Option.isSome_iff_exists.1 hs
          have hin := hfacts.2.2 id dd hdd
          rw [pl.gi] at hin
          obtain ⟨i, rfl⟩ : ∃ i : Nat, id = i := ⟨id.toNat, by omega⟩
          rw [hdd]
          refine ⟨dd, strOf_By dd, by rw [hin.2, pl.gs]; decide, i, rfl, by omega, _, ldv1 m93.cells (by rw [Nat.zero_add, Nat.mul_one]; exact hvC_get (by omega)), ?_⟩
          rw [show (!([61] ++ dd == hvS g.dat i)) = false by unfold hvS; rw [hdd]; simp]
          exact k105
        by_cases hin : 1 ≤ id ∧ id ≤ (N : Int)
        · rw [decide_eq_true hin]
          obtain ⟨i, rfl⟩ : ∃ i : Nat, id = i := ⟨id.toNat, by omega⟩
          refine ⟨fun _ => ⟨i, rfl, by omega, _, ldv1 m93.cells (by rw [Nat.zero_add, Nat.mul_one]; exact hvC_get (by omega)), ?_⟩, fun h => (by cases h)⟩
          rw [hhv]; exact k99
        · rw [decide_eq_false hin]
          refine ⟨fun h => (by cases h), fun _ => ?_⟩
          rw [hdat0 id hin] at k99
          exact k99
      have wr : K90 false s51 := by
        refine h90 _ _ ⟨fun h => (by cases h), fun _ => ?_⟩
        refine ⟨k, rfl, _, _, _, _, hget, ?_⟩
        intro K115 h115
        have k115 : ∀ (xb : List UInt8) (cx : Cap), K115 (By xb) cx s51 := by
          intro xb cx
          refine h115 _ _ _ ?_
          refine (OrWrite_spec gok id xb cx).call n51 ?_
          intro r117 s118 n118a
          obtain ⟨leaf, n118b⟩ := n118a.ex
          obtain ⟨⟨rfl, hleaf⟩, n118⟩ := n118b.pand
          refine ⟨_, rfl, ?_⟩
          intro K121 h121
          have m118 := n118.perm (B := cellA s29.next (hvC g.dat N) * (OrS q (g.acc (g.putD id xb) id leaf) * X)) (by ac_rfl)
          have k121 : K121 (g.may id xb) s118 := by
            refine h121 _ _ ⟨fun h => (by simp at h), fun _ => ⟨fun hmay => ?_, fun hmay => ?_⟩⟩
            · have hr : 1 ≤ id ∧ id ≤ (g.ids : Int) ∧ xb.length = g.size := by unfold Og.may at hmay; simpa using hmay
              rw [pl.gi] at hr
              obtain ⟨i, rfl⟩ : ∃ i : Nat, id = i := ⟨id.toNat, by omega⟩
              refine ⟨xb, strOf_By xb, by rw [hr.2.2, pl.gs]; decide, i, rfl, by omega, _, m118.cells, by rw [hvC_length]; omega, ?_⟩
              intro s126 h126
              rw [Nat.zero_add, Nat.mul_one, hvC_set (dat' := g.putD i xb) (by omega) (by unfold hvS Og.putD; rw [hmay]; simp) (fun j _ hj => by unfold hvS Og.putD; rw [hmay]; simp only [if_true]; rw [if_neg (by omega)])] at h126
              have n126 := m118.set (hvC (g.putD i xb) N)
              rw [← h126] at n126
              exact k128 _ _ _ _ hleaf (n126.perm (by ac_rfl))
            · have e : g.putD id xb = g.dat := by unfold Og.putD; rw [hmay]; rfl
              rw [e] at n118
              exact k128 _ _ _ _ hleaf n118
          rw [By_length]
          by_cases hin : 1 ≤ id ∧ id ≤ (N : Int)
          · rw [decide_eq_true hin]
            refine ⟨fun _ => ?_, fun h => (by cases h)⟩
            have e : (((xb.length : Nat) : Int) == 3) = g.may id xb := by
              unfold Og.may
              rw [pl.gi, pl.gs]
              by_cases h3 : xb.length = 3
              · rw [decide_eq_true ⟨hin.1, hin.2, h3⟩, h3]; rfl
              · rw [decide_eq_false fun h => h3 h.2.2]; simp; omega
            rw [e]; exact k121
          · rw [decide_eq_false hin]
            refine ⟨fun h => (by cases h), fun _ => ?_⟩
            have e : g.may id xb = false := by
              unfold Og.may
              rw [pl.gi, decide_eq_false fun h => hin ⟨h.1, h.2.1⟩]
            rw [e] at k121
            exact k121
        intro K112 h112
        have a112 : ∀ b, K112 b s51 := fun b => h112 _ _ ⟨fun _ => by
            rw [By_length, wrap_u8_of, wrap_u8_of]
            exact k115 [UInt8.ofNat k, UInt8.ofNat x.b.length, 7] _, fun _ => k115 x.b _⟩
        exact ⟨fun _ => a112 _, fun _ => a112 _⟩
      refine ⟨fun _ => rd, fun _ => ?_⟩
      cases (iand .i64 x.kind 15 == 4) with
      | true => exact rd
      | false => exact wr
    by_cases h1 : 1 ≤ id
    · rw [show decide (id ≥ 1) = true from decide_eq_true h1]
      refine ⟨fun _ => ?_, fun h => (by cases h)⟩
      rw [show decide (id ≤ ((N : Nat) : Int)) = decide (1 ≤ id ∧ id ≤ (N : Int)) by simp [h1]]
      exact k48
    · rw [show decide (id ≥ 1) = false from decide_eq_false h1]
      refine ⟨fun h => (by cases h), fun _ => ?_⟩
      rw [show decide (1 ≤ id ∧ id ≤ (N : Int)) = false from decide_eq_false fun h => h1 h.1] at k48
      exact k48
end Go.Proofs.YtffenelcgjdbiaaGreatDoor
namespace Go.Proofs.YtffenelcgjdbiaaGreatDoor
open Go Go.Sim Go.ChangeShapes Go.WideShapes Go.ChangeAt Go.WideMaps Go.WideElems Go.RowKit
set_option maxRecDepth 100000
def st0 : St := ⟨0, fun _ => none, fun _ => none, fun _ => false, fun _ _ => ⟨rfl, rfl, rfl⟩⟩
def gW (W : World) : G := ⟨W.heap.size, fun _ => none, fun _ => none, fun b o => W.cell? ⟨b, o, none⟩⟩
def TabMet (W : World) : Prop := ∀ (j : Nat) n, tab64[j]? = some n → W.cell? ⟨1, j, none⟩ = some (.int .u8 (n : Int))
theorem tabs_prog : tabs Tryz.prog = [(1, tab64.map fun (n : Nat) => Value.int .u8 (n : Int))] := by
  have h : Tryz.prog.globals.toList.findIdx? (fun gl => gl.name == "math/bits.deBruijn64tab") = some 1 := by kernel_rfl
  unfold tabs
  rw [h]
theorem wrel0 {W : World} (h : TabMet W) : WRel (mkEnv Tryz.prog W.heap.size) (gW W) st0 W where
  base := Nat.le_refl _
  fresh0 _ _ := ⟨rfl, rfl⟩
  blkO _ _ e := nomatch e
  blkT _ _ e := nomatch e
  inj _ _ _ _ _ e := nomatch e
  objTok _ _ _ _ _ _ e := nomatch e
  noImm _ _ _ _ e := nomatch e
  cells _ _ e := nomatch e
  maps _ _ e := nomatch e
  imm _ _ _ e := e
  tok _ e := nomatch e
  tokInj _ _ _ _ e := nomatch e
  lo := rfl
  glob k cs hk j c hc := by
    have hk : (k, cs) ∈ tabs Tryz.prog := hk
    rw [tabs_prog, List.mem_singleton] at hk
    cases hk
    rw [List.getElem?_map] at hc
    cases ht : tab64[j]? with
    | none => rw [ht] at hc; cases hc
    | some n =>
      rw [ht] at hc
      cases hc
      exact h j n ht
theorem rcall_row {f : FuncId} {args : List V} {cargs : Array Value} {W : World} (hT : TabMet W) (h : RCall Tryz.prog f args st0 fun r _ => r = .ret (.bool true)) (hA : LR (VRel (gW W)) args cargs.toList) :
    Calls Tryz.prog f cargs W fun e w' => e = .returned (.bool true) ∧ Below W.heap.size W w' := by
  refine (h W.heap.size (gW W) W cargs (wrel0 hT) hA).mono fun e w' ⟨g', st', r, h1, _, h3, h4⟩ => ?_
  subst h4
  refine ⟨?_, h3.os, h3.tape, h3.output, h3.size, h3.low⟩
  cases e with
  | returned c => cases h1; rfl
  | _ => exact h1.elim
def laidL : List (String × DataW Unit) := [("math/bits.deBruijn32tab", Rows.laid_math_bits_deBruijn32tab), ("math/bits.deBruijn64tab", Rows.laid_math_bits_deBruijn64tab)]
theorem gT64 : Tryz.prog.globalNamed "math/bits.deBruijn64tab" = some 1 := by kernel_rfl
theorem lits_get {xs : List (DataW Unit × List MemPlace)} {j n : Nat} {x : DataW Unit × List MemPlace} (h : xs.map (·.1) = tab64.map fun (n : Nat) => DataW.lit (.int .u8 (n : Int))) (hn : tab64[j]? = some n) (hx : xs[j]? = some x) : x.1 = .lit (.int .u8 (n : Int)) := by
  have := congrArg (fun l => l[j]?) h
  simp only [List.getElem?_map, hn, hx, Option.map_some, Option.some.injEq] at this
  exact this
theorem tab_met {W : World} {ta te : TypeId} (hta : (Tryz.prog.globals[1]?).map (·.type) = some ta) (hua : Tryz.prog.underlying ta = some (.array 64 te)) (hue : Tryz.prog.underlying te = some (.int .u8)) (hce : Tryz.prog.cellsOf te = 1)
    (h : laidMetH Tryz.prog laidL W) : TabMet W := by
  rw [MakeChecks.laidMetH_plain _ _ _ (by kernel_rfl)] at h
  obtain ⟨ps, ⟨g0, t0, cs0, f0, p0, q0, hg0, ht0, hv0, hd0, ⟨g1, t1, cs1, f1, p1, q1, hg1, ht1, hv1, hd1, _, _⟩, _⟩, _, _⟩ := h
  obtain rfl := Option.some.inj (gT64.symm.trans hg1)
  obtain rfl := Option.some.inj (hta.symm.trans ht1)
  intro j n hn
  obtain ⟨xs, m1, _, hx1, hlen, hn3, hel⟩ := DataW.trod_array hua hd1
  simp only [Prod.mk.injEq] at hx1
  have hj : j < 64 := (List.getElem?_eq_some_iff.1 hn).1
  have hj2 := hel j hj
  rw [hce] at hj2
  have hxj : xs[j]? = some xs[j] := List.getElem?_eq_getElem (by omega)
  rw [hxj] at hj2
  obtain ⟨k, e1, e2, _⟩ := DataW.trod_int hue hj2
  have e3 : xs.map (·.1) = tab64.map fun (n : Nat) => DataW.lit (.int .u8 (n : Int)) := by
    have := hx1.1
    unfold Rows.laid_math_bits_deBruijn64tab at this
    injection this with this
    rw [← this]; rfl
  have e4 := lits_get e3 hn hxj
  rw [e2] at e4
  injection e4 with e4
  injection e4 with _ e4
  subst e4
  have hc := World.var?_cell hg1 hv1 j
  rw [hc]
  have : (cs1.toList.drop (j * 1))[0]? = some (Value.int .u8 n) := by
    have := congrArg (fun l => l[0]?) e1
    simpa [List.getElem?_take] using this
  rw [List.getElem?_drop] at this
  simpa using this
end Go.Proofs.YtffenelcgjdbiaaGreatDoor
namespace Go.Proofs.YtffenelcgjdbiaaGreatDoor
open Go Go.Sim Go.ChangeShapes Go.WideShapes Go.ChangeAt Go.WideMaps Go.WideElems Go.RowKit
set_option maxRecDepth 100000
theorem addr_add {a : Addr} (h : a.spot = none) (j : Nat) : a.add j = ⟨a.block, a.off + j, none⟩ := by
  unfold Addr.add
  obtain ⟨b, o, s⟩ := a
  dsimp only at h ⊢
  subst h
  split
  · rename_i h0; subst h0; rfl
  · rfl
theorem addr_eta {a : Addr} (h : a.spot = none) : a = ⟨a.block, a.off, none⟩ := by obtain ⟨b, o, s⟩ := a; dsimp only at h ⊢; subst h; rfl
structure Cels2 (W : World) (sz : Nat) (el : V) (cs : List Value) : Prop where
  long : el.cells.length = sz
  one : ∀ v ∈ el.cells, v.one = true
  rel : LR (VRel (gW W)) el.cells cs
theorem flat_snoc (l : List V) (v : V) : flat (l ++ [v]) = flat l ++ v.cells := by simp [flat]
theorem vrel_slice {H : Type} {enc : TypeId × Value → H} {W : World} {t e sz fuel : Nat} {cs : List Value} {x : DataW H × List MemPlace} (ht : Tryz.prog.underlying t = some (.slice e)) (hsz : Tryz.prog.cellsOf e = sz) (h0 : 0 < sz) (Q : V → Prop)
    (elem : ∀ n ds y, DataW.trod enc Tryz.prog W 0 (fun _ => true) true n e ds = some y → ∃ el, Q el ∧ Cels2 W sz el ds)
    (h : DataW.trod enc Tryz.prog W 0 (fun _ => true) true fuel t cs = some x) : ∃ els v, cs = [v] ∧ (∀ el ∈ els, Q el) ∧ VRel (gW W) (.lst sz els .unk) v := by
  rcases DataW.trod_slice ht h with ⟨hcs, _⟩ | ⟨a, len, cap, elems, rest, n, _, hcs, _, _, hl, hm, hlen, hel, hsp, _⟩
  · exact ⟨[], _, hcs, (fun el he => nomatch he), .lst rfl (fun _ h => nomatch h) (fun _ h => nomatch h) ⟨.inl rfl, Nat.le_refl 0⟩ (cvs := []) (fun j c hj => nomatch hj) rfl (fun i v c hi => nomatch hi)⟩
  rw [hsz] at hel
  obtain ⟨hrl, hrest⟩ := hsp rfl
  rw [hsz] at hrest
  by_cases hc0 : cap = 0
  · refine ⟨[], _, hcs, (fun el he => nomatch he), .lst (by show len = 0; omega) (fun _ h => nomatch h) (fun _ h => nomatch h) ⟨.inr (.inr hc0), show len ≤ cap by omega⟩ (cvs := []) (fun j c hj => nomatch hj) rfl (fun i v c hi => nomatch hi)⟩
  have hspot : a.spot = none := by
    have key : ∀ ds, W.cells? 0 a sz = some ds → a.spot = none := fun ds hd => by
      obtain ⟨_, hl2, hcell⟩ := World.cells?_some hd
      have hc := hcell 0 h0
      rw [List.getElem?_eq_getElem (by omega)] at hc
      have := World.cell?_spot hc
      simpa [Addr.add] using this
    by_cases hln : len = 0
    · have hr := hrest 0 (by omega)
      have hz : a.add ((len + 0) * sz) = a := by rw [hln]; simp [Addr.add]
      rw [hz, List.getElem?_eq_getElem (by omega)] at hr
      cases hd : W.cells? 0 a sz with
      | none => rw [hd] at hr; cases hr
      | some ds => exact key ds hd
    · have hr := hel 0 (by omega)
      rw [List.getElem?_eq_getElem (by omega)] at hr
      have hz : a.add (0 * sz) = a := by simp [Addr.add]
      rw [hz] at hr
      cases hd : W.cells? 0 a sz with
      | none => rw [hd] at hr; cases hr
      | some ds => exact key ds hd
  have key : ∀ m, m ≤ len → ∃ (els : List V) (cvs : List Value), els.length = m ∧ (∀ el ∈ els, Q el) ∧ (∀ el ∈ els, el.cells.length = sz) ∧ (∀ v ∈ flat els, v.one = true) ∧ cvs.length = m * sz ∧ LR (VRel (gW W)) (flat els) cvs ∧
      ∀ (j : Nat) c, cvs[j]? = some c → W.cell? ⟨a.block, a.off + j, none⟩ = some c := by
    intro m
    induction m with
    | zero => exact fun _ => ⟨[], [], rfl, (fun _ h => nomatch h), (fun _ h => nomatch h), (fun _ h => nomatch h), by rw [Nat.zero_mul]; rfl, ⟨rfl, fun i v c hi => nomatch hi⟩, fun j c hj => nomatch hj⟩
    | succ m ih =>
      intro hm1
      obtain ⟨els, cvs, k1, k2, k3, k4, k5, k6, k7⟩ := ih (by omega)
      have hr := hel m (by omega)
      rw [List.getElem?_eq_getElem (by omega)] at hr
      cases hd : W.cells? 0 (a.add (m * sz)) sz with
      | none => rw [hd] at hr; cases hr
      | some ds =>
        rw [hd] at hr
        obtain ⟨el, q1, q2⟩ := elem n ds _ hr
        obtain ⟨_, hl2, hcell⟩ := World.cells?_some hd
        refine ⟨els ++ [el], cvs ++ ds, by simp [k1], ?_, ?_, ?_, by rw [List.length_append, k5, hl2, Nat.succ_mul], ?_, ?_⟩
        · intro y hy
          rcases List.mem_append.1 hy with hy | hy
          · exact k2 y hy
          · rw [List.mem_singleton] at hy; subst hy; exact q1
        · intro y hy
          rcases List.mem_append.1 hy with hy | hy
          · exact k3 y hy
          · rw [List.mem_singleton] at hy; subst hy; exact q2.long
        · intro v hv
          rw [flat_snoc] at hv
          rcases List.mem_append.1 hv with hv | hv
          · exact k4 v hv
          · exact q2.one v hv
        · rw [flat_snoc]
          refine ⟨by rw [List.length_append, List.length_append, k6.1, q2.rel.1], fun i v c hv hc => ?_⟩
          by_cases hi : i < (flat els).length
          · rw [List.getElem?_append_left hi] at hv
            rw [List.getElem?_append_left (by rw [← k6.1]; exact hi)] at hc
            exact k6.2 i v c hv hc
          · rw [List.getElem?_append_right (by omega)] at hv
            rw [List.getElem?_append_right (by rw [← k6.1]; omega), ← k6.1] at hc
            exact q2.rel.2 _ v c hv hc
        · intro j c hj
          by_cases hi : j < cvs.length
          · rw [List.getElem?_append_left hi] at hj
            exact k7 j c hj
          · rw [List.getElem?_append_right (by omega)] at hj
            have hlt := (List.getElem?_eq_some_iff.1 hj).1
            have hc := hcell (j - cvs.length) (by omega)
            rw [hj, addr_add hspot, addr_add rfl] at hc
            rw [← hc]
            dsimp only
            congr 2
            omega
  obtain ⟨els, cvs, k1, k2, k3, k4, k5, k6, k7⟩ := key len (Nat.le_refl _)
  refine ⟨els, _, hcs, k2, ?_⟩
  exact .lst k1.symm k3 k4 ⟨.inr (.inl ⟨a.block, a.off, by rw [← addr_eta hspot]⟩), hl⟩ (cvs := cvs) (fun j c hj => ⟨a.block, a.off, by rw [← addr_eta hspot], k7 j c hj⟩) k6.1 k6.2
theorem lr_one {W : World} {v : V} {c : Value} (h : VRel (gW W) v c) : LR (VRel (gW W)) [v] [c] :=
  ⟨rfl, fun i u d hu hd => by
    match i, hu, hd with
    | 0, hu, hd => cases hu; cases hd; exact h⟩
theorem elem_int {H : Type} {enc : TypeId × Value → H} {W : World} {e : Nat} {k : IntKind} (he : Tryz.prog.underlying e = some (.int k)) (n : Nat) (ds : List Value) (y : DataW H × List MemPlace) (h : DataW.trod enc Tryz.prog W 0 (fun _ => true) true n e ds = some y) :
    ∃ el, (∃ m : Int, el = .int k m ∧ (Lit.int k m).wf = true) ∧ Cels2 W 1 el ds := by
  obtain ⟨m, rfl, _, hw⟩ := DataW.trod_int he h
  refine ⟨.int k m, ⟨m, rfl, hw⟩, rfl, fun v hv => ?_, lr_one (.int k m)⟩
  cases hv with
  | head => rfl
  | tail _ h => cases h
theorem ints_of {k : IntKind} {els : List V} (h : ∀ el ∈ els, ∃ m : Int, el = .int k m ∧ (Lit.int k m).wf = true) : ∃ zs : List Int, els = zs.map (V.int k) ∧ ∀ m ∈ zs, (Lit.int k m).wf = true := by
  induction els with
  | nil => exact ⟨[], rfl, fun _ h => nomatch h⟩
  | cons a r ih =>
    obtain ⟨m, rfl, hm⟩ := h a (List.mem_cons_self ..)
    obtain ⟨zs, rfl, hz⟩ := ih fun el he => h el (List.mem_cons_of_mem _ he)
    refine ⟨m :: zs, rfl, fun n hn => ?_⟩
    rcases List.mem_cons.1 hn with rfl | hn
    · exact hm
    · exact hz n hn
theorem u32s_of {zs : List Int} (h : ∀ n ∈ zs, (Lit.int .u32 n).wf = true) : ∃ l : List Nat, (∀ n ∈ l, n < 2 ^ 32) ∧ zs.map (V.int .u32) = U32s l := by
  have hb : ∀ n ∈ zs, 0 ≤ n ∧ n < 2 ^ 32 := fun n hn => by
    have := h n hn
    simp [Lit.wf, IntKind.min, IntKind.max, IntKind.bits, IntKind.signed] at this
    omega
  refine ⟨zs.map Int.toNat, fun n hn => ?_, ?_⟩
  · obtain ⟨m, hm, rfl⟩ := List.mem_map.1 hn
    have := hb m hm
    omega
  · unfold U32s
    rw [List.map_map]
    exact List.map_congr_left fun m hm => by
      have := hb m hm
      show V.int .u32 m = V.int .u32 ((m.toNat : Nat) : Int)
      rw [Int.toNat_of_nonneg this.1]
theorem bytes_of {zs : List Int} (h : ∀ n ∈ zs, (Lit.int .u8 n).wf = true) : ∃ l : List UInt8, zs.map (V.int .u8) = By l := by
  have hb : ∀ n ∈ zs, 0 ≤ n ∧ n < 256 := fun n hn => by
    have := h n hn
    simp [Lit.wf, IntKind.min, IntKind.max, IntKind.bits, IntKind.signed] at this
    omega
  refine ⟨zs.map fun n => UInt8.ofNat n.toNat, ?_⟩
  unfold By
  rw [List.map_map]
  exact List.map_congr_left fun m hm => by
    have := hb m hm
    show V.int .u8 m = V.int .u8 (((UInt8.ofNat m.toNat).toNat : Nat) : Int)
    congr 1
    simp
    omega
theorem vrel_u32 {H : Type} {enc : TypeId × Value → H} {W : World} {t e fuel : Nat} {cs : List Value} {x : DataW H × List MemPlace} (ht : Tryz.prog.underlying t = some (.slice e)) (he : Tryz.prog.underlying e = some (.int .u32)) (hc : Tryz.prog.cellsOf e = 1)
    (h : DataW.trod enc Tryz.prog W 0 (fun _ => true) true fuel t cs = some x) : ∃ (l : List Nat) (v : Value), cs = [v] ∧ (∀ n ∈ l, n < 2 ^ 32) ∧ VRel (gW W) (.lst 1 (U32s l) .unk) v := by
  obtain ⟨els, v, h1, h2, h3⟩ := vrel_slice ht hc (by decide) _ (elem_int he) h
  obtain ⟨zs, rfl, h4⟩ := ints_of h2
  obtain ⟨l, h5, h6⟩ := u32s_of h4
  rw [h6] at h3
  exact ⟨l, v, h1, h5, h3⟩
theorem vrel_bytes {H : Type} {enc : TypeId × Value → H} {W : World} {t e fuel : Nat} {cs : List Value} {x : DataW H × List MemPlace} (ht : Tryz.prog.underlying t = some (.slice e)) (he : Tryz.prog.underlying e = some (.int .u8)) (hc : Tryz.prog.cellsOf e = 1)
    (h : DataW.trod enc Tryz.prog W 0 (fun _ => true) true fuel t cs = some x) : ∃ (l : List UInt8) (v : Value), cs = [v] ∧ VRel (gW W) (.lst 1 (By l) .unk) v := by
  obtain ⟨els, v, h1, h2, h3⟩ := vrel_slice ht hc (by decide) _ (elem_int he) h
  obtain ⟨zs, rfl, h4⟩ := ints_of h2
  obtain ⟨l, h6⟩ := bytes_of h4
  rw [h6] at h3
  exact ⟨l, v, h1, h3⟩
theorem vrel_arr {H : Type} {enc : TypeId × Value → H} {W : World} {t e m fuel : Nat} {cs : Array Value} {x : DataW H × List MemPlace} (ht : Tryz.prog.underlying t = some (.array m e)) (he : Tryz.prog.underlying e = some (.int .u8)) (hc : Tryz.prog.cellsOf e = 1) (hct : Tryz.prog.cellsOf t = m)
    (h : DataW.trod enc Tryz.prog W 0 (fun _ => true) true fuel t cs.toList = some x) : ∃ l : List UInt8, l.length = m ∧ VRel (gW W) (.agg (By l)) (.agg cs) := by
  obtain ⟨xs, n, _, _, hlen, hn, hel⟩ := DataW.trod_array ht h
  rw [hct] at hlen
  rw [hc] at hel
  have key : ∀ k, k ≤ m → ∃ zs : List Int, zs.length = k ∧ (∀ z ∈ zs, (Lit.int .u8 z).wf = true) ∧ cs.toList.take k = zs.map (Value.int .u8) := by
    intro k
    induction k with
    | zero => exact fun _ => ⟨[], rfl, (fun _ h => nomatch h), rfl⟩
    | succ k ih =>
      intro hk
      obtain ⟨zs, k1, k2, k3⟩ := ih (by omega)
      have hr := hel k (by omega)
      rw [List.getElem?_eq_getElem (by omega)] at hr
      obtain ⟨z, h1, _, h3⟩ := DataW.trod_int he hr
      have hkl : k < cs.toList.length := by omega
      have h4 : cs.toList[k] = .int .u8 z := by
        have := congrArg (fun l => l[0]?) h1
        rw [Nat.mul_one, List.drop_eq_getElem_cons hkl] at this
        simpa using this
      refine ⟨zs ++ [z], by simp [k1], fun y hy => ?_, ?_⟩
      · rcases List.mem_append.1 hy with hy | hy
        · exact k2 y hy
        · rw [List.mem_singleton] at hy; subst hy; exact h3
      · rw [List.take_succ_eq_append_getElem hkl, k3, h4]; simp
  obtain ⟨zs, k1, k2, k3⟩ := key m (Nat.le_refl _)
  rw [List.take_of_length_le (by omega)] at k3
  obtain ⟨l, hl⟩ := bytes_of k2
  have hll : l.length = m := by
    have := congrArg List.length hl
    rw [List.length_map, By_length] at this
    omega
  refine ⟨l, hll, .agg (fun v hv => ?_) (by rw [By_length]; omega) fun i v c hv hc2 => ?_⟩
  · unfold By at hv
    obtain ⟨b, _, rfl⟩ := List.mem_map.1 hv; rfl
  · rw [k3, List.getElem?_map] at hc2
    rw [← hl, List.getElem?_map] at hv
    cases hz : zs[i]? with
    | none => rw [hz] at hv; cases hv
    | some z => rw [hz] at hv hc2; cases hv; cases hc2; exact .int _ _
end Go.Proofs.YtffenelcgjdbiaaGreatDoor
namespace Go.Proofs.YtffenelcgjdbiaaGreatDoor
open Go Go.Sim Go.ChangeShapes Go.WideShapes Go.ChangeAt Go.WideMaps Go.WideElems Go.RowKit
set_option maxRecDepth 100000
theorem own : ownKnob Tryz.prog.godebug = none := by kernel_rfl
theorem laidOut : laidOutB Tryz.prog = true := by kernel_rfl
theorem door_met (os : Go.Os) (args : Array Value) : laidMetH Tryz.prog laidL ((World.doorLaid Tryz.prog 4000 os).forCall (fun _ _ => 0) ⟨#[], args, []⟩).memory :=
  laidMetH_of_parts3 (fuel := 8) (laidMet_of_run' 8 (by kernel_rfl) (by kernel_rfl)) (by kernel_rfl) (by kernel_rfl)
theorem t64 : (Tryz.prog.globals[1]?).map (·.type) = some 149 := by kernel_rfl
end Go.Proofs.YtffenelcgjdbiaaGreatDoor
