/- Merged by a program of mine (pack.py) out of my own texts; what is not used is left out. -/
import Derived.Test.YtffenelcgjdbiaaGreatDoorKOramDrops42
import Derived.WalkKit
import Derived.Ground.NamesProg
import Derived.Shelf.Sort.Plain
import Derived.Ground.Names2Prog
import Derived.RangeFuncBound
import Derived.RangeFuncGives
import Derived.RangeFuncSeq
import Derived.Sort.MapsRangeIn
import Derived.Sort.KeysCollected
import Derived.Sort.OwnSorted
import Derived.Lib.SlKeysI
import Derived.OwnWalkIn
import Derived.TacticsInMore
import Derived.RegionIn
import Derived.LoopNIn
import Derived.LoopIn
import Derived.Maps.AppendAt
import Derived.Shelf.Abstract
import Derived.Shelf.Slices.In.SortNone
namespace Go.Proofs.YtffenelcgjdbiaaGreatDoor
open Go Go.Sim
set_option maxRecDepth 100000
theorem RGet_spec (bs : List UInt8) (c : Cap) (hl : bs.length ≤ 8) : Gives Tryz.prog F_ref1_Get [.lst 1 (By bs) c] (.int .u64 (getL bs)) := by
  intro st
  refine w_ref1_Get ?_
  rw [By_length]
  refine ⟨fun m out i st' => ∃ k : Nat, i = k ∧ k ≤ bs.length ∧ m = bs.length - k ∧ out = (getL (bs.take k) : Int) ∧ st' = st, ⟨bs.length, 0, rfl, by omega, rfl, by simp [getL], rfl⟩, ?_⟩
  rintro _ _ _ st1 ⟨k, rfl, hk, rfl, rfl, rfl⟩
  intro K hK
  have out : bs.length ≤ k → K false st1 := fun hge => hK _ _ ⟨fun h => (by cases h), fun _ => ⟨by rw [List.take_of_length_le hge], .refl _⟩⟩
  refine br (fun hlt => ?_) fun hge => out (by omega)
  have hlt : k < bs.length := by omega
  have : decide ((k : Int) < 8) = true := by simp; omega
  rw [this]
  refine hK _ _ ⟨fun _ => ⟨k, rfl, _, By_get hlt, ?_, bs.length - (k + 1), by omega, k + 1, ?_, by omega, rfl, ?_, rfl⟩, fun h => (by cases h)⟩
  · rw [w64 (n := 8 * (k : Int)) (by omega), wu64 (by omega)]; omega
  · rw [w64 (by omega)]; omega
  · rw [w64 (n := 8 * (k : Int)) (by omega), wu64 (n := 8 * (k : Int)) (by omega), wu64 (n := (bs[k].toNat : Int)) (by have := bs[k].toNat_lt; omega)]
    have hx := bs[k].toNat_lt
    rw [show (8 * (k : Int)).toNat = 8 * k by omega, Nat.min_eq_left (by omega)]
    have hp : 2 ^ (8 * k) = 256 ^ k := by rw [Nat.pow_mul]
    have hG := getL_lt (bs.take k)
    rw [List.length_take, Nat.min_eq_left (by omega)] at hG
    have h9 : 256 ^ k * bs[k].toNat < 2 ^ 64 := by
      have h1 : 256 ^ k * bs[k].toNat < 256 ^ k * 256 := Nat.mul_lt_mul_of_pos_left hx (Nat.pow_pos (by decide))
      have h2 : 256 ^ k * 256 = 256 ^ (k + 1) := rfl
      have h3 : 256 ^ (k + 1) ≤ 256 ^ 8 := Nat.pow_le_pow_right (by decide) (by omega)
      have h4 : (256 : Nat) ^ 8 = 2 ^ 64 := by decide
      omega
    have e1 : (bs[k].toNat : Int) * 2 ^ (8 * k) = ((256 ^ k * bs[k].toNat : Nat) : Int) := by
      rw [← hp, Int.natCast_mul, Int.mul_comm]; simp
    rw [e1, wu64 (by omega)]
    have hGl : getL (bs.take k) < 2 ^ 64 := getL_lt64 _ (by simp; omega)
    rw [or_64 _ _ hGl h9]
    have key : getL (bs.take (k + 1)) = getL (bs.take k) + 256 ^ k * bs[k].toNat := by
      have : ∀ (l : List UInt8) (x : UInt8), getL (l ++ [x]) = getL l + 256 ^ l.length * x.toNat := by
        intro l x
        induction l with
        | nil => simp [getL]
        | cons y l ih =>
          simp only [List.cons_append, getL, ih, List.length_cons, Nat.pow_succ]
          rw [Nat.mul_add, ← Nat.add_assoc, ← Nat.mul_assoc, Nat.mul_comm 256 (256 ^ l.length)]
      rw [List.take_succ_eq_append_getElem hlt, this, List.length_take, Nat.min_eq_left (by omega)]
    rw [key, Nat.or_comm]
    have := Nat.two_pow_add_eq_or_of_lt (i := 8 * k) (b := getL (bs.take k)) (by rw [hp]; exact hG) bs[k].toNat
    rw [hp] at this
    rw [← this]
    congr 1
    omega
def kw (b : List UInt8) (k : Nat) : Nat := getL ((b.take (4 * k + 4)).drop (4 * k))
theorem kw_lt (b : List UInt8) (k : Nat) : kw b k < 2 ^ 32 := by
  refine Nat.lt_of_lt_of_le (getL_lt _) ?_
  have : 256 ^ ((b.take (4 * k + 4)).drop (4 * k)).length ≤ 256 ^ 4 := Nat.pow_le_pow_right (by decide) (by simp; omega)
  exact this
def fillW (at_ : Nat) (b : List UInt8) (s : List Nat) : Nat → List Nat
  | 0 => s
  | k + 1 => (fillW at_ b s k).set (at_ + k) (kw b k)
theorem fillW_wd {at_ : Nat} {b : List UInt8} {s : List Nat} (h : Wd s) (k : Nat) : Wd (fillW at_ b s k) := by
  induction k with
  | zero => exact h
  | succ k ih => exact ih.set _ (kw_lt b k)
def base16 : List Nat := [1634760805, 857760878, 2036477234, 1797285236, 0, 0, 0, 0, 0, 0, 0, 0, 0, 0, 0, 0]
theorem base_wd : Wd base16 := ⟨rfl, by decide⟩
def iniL (key nonce : List UInt8) (ctr : Nat) : List Nat := fillW 13 nonce ((fillW 4 key base16 8).set 12 ctr) 3
theorem ini_wd (key nonce : List UInt8) {ctr : Nat} (h : ctr < 2 ^ 32) : Wd (iniL key nonce ctr) := fillW_wd ((fillW_wd base_wd 8).set _ h) 3
def itr (s : List Nat) : Nat → List Nat
  | 0 => s
  | k + 1 => dbl (itr s k)
theorem itr_wd {s : List Nat} (h : Wd s) (k : Nat) : Wd (itr s k) := by
  induction k with
  | zero => exact h
  | succ k ih => exact ih.dblk 8
def outL (s t : List Nat) : Nat → List UInt8
  | 0 => List.replicate 64 0
  | k + 1 => repl (outL s t k) (4 * k) (putL (add32 (s.getD k 0) (t.getD k 0)) 4)
theorem outL_len (s t : List Nat) {k : Nat} (hk : k ≤ 16) : (outL s t k).length = 64 := by
  induction k with
  | zero => rfl
  | succ k ih =>
    have := ih (by omega)
    rw [outL, length_repl _ _ _ (by rw [putL_len]; omega)]
    exact this
def blockL (key nonce : List UInt8) (ctr : Nat) : List UInt8 :=
  let s := iniL key nonce ctr
  outL s (itr s 10) 16
theorem block_len (key nonce : List UInt8) (ctr : Nat) : (blockL key nonce ctr).length = 64 := outL_len _ _ (Nat.le_refl _)
theorem By_repl (l m : List UInt8) (k : Nat) : repl (By l) k (By m) = By (repl l k m) := by
  simp only [repl, By_append, By_take, By_drop, By_length]
theorem base_V : [V.int .u32 1634760805, .int .u32 857760878, .int .u32 2036477234, .int .u32 1797285236] ++ List.replicate 12 (V.int .u32 0) = W32 base16 := rfl
theorem ten_le {key nonce : List V} {st st4 st5 st6 st8 st10 : St} (h4 : st4 = st.newC key) (h5 : st5 = st4.newC nonce) (h6 : st6 = st5.newC (List.replicate 64 (V.int .u8 0))) (h8 : st8 = (st6.killC st4.next).newT) (h10 : st10 = (st8.killC st.next).newT) :
    st6.cells st4.next = some nonce ∧ st8.cells st.next = some key ∧ st.le st10 ∧ st10.cells st5.next = some (By (List.replicate 64 0)) ∧ st.next ≤ st5.next := by
  have n4 : st4.next = st.next + 1 := by rw [h4]; rfl
  have n5 : st5.next = st4.next + 1 := by rw [h5]; rfl
  have c4 : st4.cells st.next = some key := by rw [h4]; exact cells_new _ _
  have c5 : st5.cells st.next = some key := by rw [h5]; exact cells_new' c4
  have c5' : st5.cells st4.next = some nonce := by rw [h5]; exact cells_new _ _
  have l6 : st.le st6 := by rw [h6, h5, h4]; exact (((St.le.refl st).new _).new _).new _
  have c6 : st6.cells st.next = some key := by rw [h6]; exact cells_new' c5
  have c6' : st6.cells st4.next = some nonce := by rw [h6]; exact cells_new' c5'
  have c6'' : st6.cells st5.next = some (By (List.replicate 64 0)) := by rw [h6]; exact cells_new _ _
  refine ⟨c6', ?_, ?_, ?_, by omega⟩
  · rw [h8]; exact cells_kill c6 (by omega)
  · rw [h10, h8]; exact ((l6.kill (by omega)).newT.kill (Nat.le_refl _)).newT
  · rw [h10]; refine cells_kill ?_ (by omega)
    rw [h8]; exact cells_kill c6'' (by omega)
theorem Block_spec (key nonce : List UInt8) (ctr : Nat) (hk : key.length = 32) (hn : nonce.length = 12) (hc : ctr < 2 ^ 32) :
    Gives Tryz.prog F_chac_Block [.agg (By key), .agg (By nonce), .int .u32 ctr] (.agg (By (blockL key nonce ctr))) := by
  intro st
  refine w_chac_Block ?_
  intro st4 h4 st5 h5 st6 h6
  obtain ⟨c7, c8, hle10, hR, hge⟩ := ten_le h4 h5 h6 rfl rfl
  refine ⟨By nonce, c7, fun st8 h8 => ⟨By key, by rw [h8]; exact c8, fun st10 h10 => ?_⟩⟩
  rw [← h8, ← h10] at hle10 hR
  have hRn : st5.next < st10.next := St.lt_of_cells hR
  have hsn : st.next ≤ st10.next := by omega
  intro st11 h11
  refine ⟨rfl, rfl, List.replicate 16 (V.int .u32 0), by rw [h11]; exact cells_new _ _, by simp, fun st13 h13 => ?_⟩
  rw [base_V, repl_all' (by rfl)] at h13
  have c13 : st13.cells st10.next = some (W32 base16) := by rw [h13]; exact cells_set (cs := List.replicate 16 (V.int .u32 0)) (by rw [h11]; exact cells_new _ _)
  have r13 : st13.cells st5.next = some (By (List.replicate 64 0)) := by rw [h13]; exact cells_set' (by rw [h11]; exact cells_new' hR) (by omega)
  have l13 : st.le st13 := by rw [h13, h11]; exact (hle10.new _).set hsn _
  clear h13 h11 h10 h8 h6 h5 h4 c7 c8
  refine ⟨fun m i st' => ∃ k : Nat, i = k ∧ k ≤ 8 ∧ m = 8 - k ∧ st.le st' ∧ st'.cells st10.next = some (W32 (fillW 4 key base16 k)) ∧ st'.cells st5.next = some (By (List.replicate 64 0)), ⟨8, 0, rfl, by omega, rfl, l13, c13, r13⟩, ?_⟩
  rintro _ _ st17 ⟨k, rfl, hk8, rfl, l17, c17, r17⟩
  refine br (fun hlt => ?_) fun hge8 => ?_
  · refine ⟨by rw [By_length]; omega, 4 * k, 4 * k + 4, by rw [w64 (by omega)]; omega, by rw [w64 (n := 4 * (k : Int)) (by omega), w64 (by omega)]; omega, by omega, by omega, ?_⟩
    rw [By_take, By_drop]
    refine (Get_spec _ _ (by simp; omega) st17).mono ?_
    rintro _ st21 ⟨rfl, hle⟩
    have hw := (fillW_wd (at_ := 4) (b := key) base_wd k).1
    refine ⟨_, rfl, 4 + k, by rw [w64 (by omega)]; omega, by omega, _, hle.getC c17, by rw [W32_length]; omega, fun st25 h25 => ?_⟩
    have hkw := kw_lt key k
    unfold kw at hkw
    rw [Nat.mul_one, Nat.zero_add, wu32 (by omega), W32_set] at h25
    refine ⟨8 - (k + 1), by omega, k + 1, by rw [w64 (by omega)]; omega, by omega, rfl, ?_, ?_, ?_⟩
    · rw [h25]; exact (l17.trans hle).set hsn _
    · rw [h25]; exact cells_set (hle.getC c17)
    · rw [h25]; exact cells_set' (hle.getC r17) (by omega)
  have : k = 8 := by omega
  subst this
  have hw8 := fillW_wd (at_ := 4) (b := key) base_wd 8
  refine ⟨_, c17, by rw [W32_length, hw8.1]; decide, fun st28 h28 => ?_⟩
  rw [W32_set] at h28
  have c28 := cells_set (cs' := W32 ((fillW 4 key base16 8).set 12 ctr)) c17
  rw [← h28] at c28
  have r28 : st28.cells st5.next = some (By (List.replicate 64 0)) := by rw [h28]; exact cells_set' r17 (by omega)
  have l28 : st.le st28 := by rw [h28]; exact l17.set hsn _
  have hw12 := hw8.set 12 hc
  refine ⟨fun m i st' => ∃ k : Nat, i = k ∧ k ≤ 3 ∧ m = 3 - k ∧ st.le st' ∧ st'.cells st10.next = some (W32 (fillW 13 nonce ((fillW 4 key base16 8).set 12 ctr) k)) ∧ st'.cells st5.next = some (By (List.replicate 64 0)), ⟨3, 0, rfl, by omega, rfl, l28, c28, r28⟩, ?_⟩
  rintro _ _ st32 ⟨k, rfl, hk3, rfl, l32, c32, r32⟩
  refine br (fun hlt => ?_) fun hge3 => ?_
  · refine ⟨by rw [By_length]; omega, 4 * k, 4 * k + 4, by rw [w64 (by omega)]; omega, by rw [w64 (n := 4 * (k : Int)) (by omega), w64 (by omega)]; omega, by omega, by omega, ?_⟩
    rw [By_take, By_drop]
    refine (Get_spec _ _ (by simp; omega) st32).mono ?_
    rintro _ st36 ⟨rfl, hle⟩
    have hw := (fillW_wd (at_ := 13) (b := nonce) hw12 k).1
    refine ⟨_, rfl, 13 + k, by rw [w64 (by omega)]; omega, by omega, _, hle.getC c32, by rw [W32_length]; omega, fun st40 h40 => ?_⟩
    have hkw := kw_lt nonce k
    unfold kw at hkw
    rw [Nat.mul_one, Nat.zero_add, wu32 (by omega), W32_set] at h40
    refine ⟨3 - (k + 1), by omega, k + 1, by rw [w64 (by omega)]; omega, by omega, rfl, ?_, ?_, ?_⟩
    · rw [h40]; exact (l32.trans hle).set hsn _
    · rw [h40]; exact cells_set (hle.getC c32)
    · rw [h40]; exact cells_set' (hle.getC r32) (by omega)
  have : k = 3 := by omega
  subst this
  have hws := ini_wd key nonce hc
  have hS : fillW 13 nonce ((fillW 4 key base16 8).set 12 ctr) 3 = iniL key nonce ctr := rfl
  rw [hS] at c32
  generalize hSe : iniL key nonce ctr = S at c32 hws
  refine ⟨_, ldvg c32 (by rw [W32_length]; exact hws.1), fun st43 h43 => ⟨by rw [W32_length]; exact hws.1, rfl, List.replicate 16 (V.int .u32 0), by rw [h43]; exact cells_new _ _, by simp, fun st45 h45 => ?_⟩⟩
  rw [repl_all' (by rw [W32_length, hws.1]; rfl)] at h45
  have hn10 : st10.next < st32.next := St.lt_of_cells c32
  have hn5 : st5.next < st32.next := St.lt_of_cells r32
  have t45 : st45.cells st32.next = some (W32 S) := by rw [h45]; exact cells_set (cs := List.replicate 16 (V.int .u32 0)) (by rw [h43]; exact cells_new _ _)
  have c45 : st45.cells st10.next = some (W32 S) := by rw [h45]; exact cells_set' (by rw [h43]; exact cells_new' c32) (by omega)
  have r45 : st45.cells st5.next = some (By (List.replicate 64 0)) := by rw [h45]; exact cells_set' (by rw [h43]; exact cells_new' r32) (by omega)
  have l45 : st.le st45 := by rw [h45, h43]; exact (l32.new _).set (by omega) _
  refine ⟨fun m i st' => ∃ k : Nat, i = k ∧ k ≤ 10 ∧ m = 10 - k ∧ st.le st' ∧ st'.cells st32.next = some (W32 (itr S k)) ∧ st'.cells st10.next = some (W32 S) ∧ st'.cells st5.next = some (By (List.replicate 64 0)), ⟨10, 0, rfl, by omega, rfl, l45, t45, c45, r45⟩, ?_⟩
  rintro _ _ st49 ⟨k, rfl, hk10, rfl, l49, t49, c49, r49⟩
  have hwt := itr_wd hws k
  refine br (fun hlt => ?_) fun hge10 => ?_
  · refine ⟨_, ldvg t49 (by rw [W32_length]; exact hwt.1), ?_⟩
    refine (Double_spec _ hwt st49).mono ?_
    rintro _ st52 ⟨rfl, hle⟩
    refine ⟨_, rfl, by rw [W32_length]; exact (itr_wd hws (k + 1)).1, rfl, _, hle.getC t49, by rw [W32_length, hwt.1]; decide, fun st55 h55 => ?_⟩
    rw [repl_all' (by rw [W32_length, W32_length, hwt.1]; exact (itr_wd hws (k + 1)).1)] at h55
    refine ⟨10 - (k + 1), by omega, k + 1, by rw [w64 (by omega)]; omega, by omega, rfl, ?_, ?_, ?_, ?_⟩
    · rw [h55]; exact (l49.trans hle).set (by omega) _
    · rw [h55]; exact cells_set (hle.getC t49)
    · rw [h55]; exact cells_set' (hle.getC c49) (by omega)
    · rw [h55]; exact cells_set' (hle.getC r49) (by omega)
  have : k = 10 := by omega
  subst this
  generalize hTe : itr S 10 = T at t49 hwt
  intro st57 h57
  have hn49 : st32.next < st49.next := St.lt_of_cells t49
  refine ⟨fun m i st' => ∃ k : Nat, i = k ∧ k ≤ 16 ∧ m = 16 - k ∧ st.le st' ∧ st'.cells st49.next = some (By (outL S T k)) ∧ st'.cells st32.next = some (W32 T) ∧ st'.cells st10.next = some (W32 S) ∧ st'.cells st5.next = some (By (List.replicate 64 0)),
    ⟨16, 0, rfl, by omega, rfl, by rw [h57]; exact l49.new _, by rw [h57]; exact cells_new _ _, by rw [h57]; exact cells_new' t49, by rw [h57]; exact cells_new' c49, by rw [h57]; exact cells_new' r49⟩, ?_⟩
  rintro _ _ st61 ⟨k, rfl, hk16, rfl, l61, o61, t61, c61, r61⟩
  have hol := outL_len S T hk16
  refine br (fun hlt => ?_) fun hge16 => ?_
  · refine ⟨4 * k, by rw [w64 (by omega)]; omega, by omega, k, rfl, by omega, _, ldw c61 (by rw [hws.1]; omega), k, rfl, by omega, _, ldw t61 (by rw [hwt.1]; omega), ?_⟩
    rw [add32_wrap, wu64 (by have := add32_lt (S.getD k 0) (T.getD k 0); omega)]
    refine (Put_spec _ 4 (by omega) st61).mono ?_
    rintro _ st68 ⟨c1, rfl, ho⟩
    refine ⟨_, _, rfl, _, _, rfl, ho.le.getC o61, ?_, fun st72 h72 => ?_⟩
    · simp only [By_length, putL_len, hol]; split <;> omega
    have e1 : (if 64 = 4 * k then 0 else 0 + 4 * k * 1) = 4 * k := by split <;> omega
    have e2 : min (By (putL (add32 (S.getD k 0) (T.getD k 0)) 4)).length (64 - 4 * k) = 4 := by rw [By_length, putL_len]; omega
    rw [e1, e2, List.take_of_length_le (by rw [By_length, putL_len]; omega), By_flat, By_repl] at h72
    refine ⟨16 - (k + 1), by omega, k + 1, by rw [w64 (by omega)]; omega, by omega, rfl, ?_, ?_, ?_, ?_, ?_⟩
    · rw [h72]; exact (l61.trans ho.le).set (by omega) _
    · rw [h72]; exact cells_set (ho.le.getC o61)
    · rw [h72]; exact cells_set' (ho.le.getC t61) (by omega)
    · rw [h72]; exact cells_set' (ho.le.getC c61) (by omega)
    · rw [h72]; exact cells_set' (ho.le.getC r61) (by omega)
  have : k = 16 := by omega
  subst this
  refine ⟨_, ldvg o61 (by rw [By_length]; exact hol), by rw [By_length]; exact hol, rfl, _, r61, by simp, fun st76 h76 => ?_⟩
  rw [repl_all' (by rw [By_length, By_length, hol]; rfl)] at h76
  refine ⟨_, ldvg (by rw [h76]; exact cells_set r61) (by rw [By_length]; exact hol), ?_, by rw [h76]; exact l61.set hge _⟩
  rw [blockL, hSe, hTe]
theorem ldvf {st : St} {id off n : Nat} {agg : Bool} {cs : List V} {v : V} (h : st.cells id = some cs) (hv : fldV cs off n agg = some v) : st.ldv id off n agg = some v := by
  simp only [St.ldv, h, Option.bind_some]; exact hv
theorem RDouble_spec (s : List Nat) (hs : Wd s) : Gives Tryz.prog F_ref1_Double [.agg (W32 s)] (.agg (W32 (dbl s))) := by
  intro st
  refine w_ref1_Double ?_
  rintro st2 h2 st3 h3
  refine (quarters_spec st3).mono ?_
  rintro _ st5 ⟨rfl, hle5⟩
  have hle3 : st.le st3 := by subst h2 h3; exact (St.le.refl st).new _ |>.new _
  have hc0 : st3.cells st.next = some (W32 s) := by subst h2 h3; exact cells_new' (cells_new _ _)
  have hc1 : st3.cells st2.next = some (List.replicate 16 (.int .u32 0)) := by subst h3; exact cells_new _ _
  have hne : st2.next ≠ st.next := by subst h2; simp
  have hge2 : st.next ≤ st2.next := by subst h2; simp
  refine ⟨_, rfl, fun st7 h7 => ⟨rfl, rfl, List.replicate 32 (V.int .i64 0), by rw [h7]; exact cells_new _ _, by simp, fun st9 h9 => ?_⟩⟩
  rw [repl_all' (by rfl)] at h9
  have q9 : st9.cells st5.next = some placesV := by rw [h9]; exact cells_set (cs := List.replicate 32 (V.int .i64 0)) (by rw [h7]; exact cells_new _ _)
  have hn5 : st.next < st5.next := St.lt_of_cells (hle5.getC hc0)
  have hn5' : st2.next < st5.next := St.lt_of_cells (hle5.getC hc1)
  refine ⟨fun n i st' => ∃ k : Nat, i = k ∧ k ≤ 8 ∧ n = 8 - k ∧ st.le st' ∧ st'.cells st.next = some (W32 (dblk s k)) ∧ st'.cells st2.next = some (List.replicate 16 (.int .u32 0)) ∧ st'.cells st5.next = some placesV, ⟨8, 0, rfl, by omega, rfl, ?_, ?_, ?_, q9⟩, ?_⟩
  · rw [h9, h7]; exact ((hle3.trans hle5).new _).set (by omega) _
  · rw [h9]; exact cells_set' (by rw [h7]; exact cells_new' (hle5.getC hc0)) (by omega)
  · rw [h9]; exact cells_set' (by rw [h7]; exact cells_new' (hle5.getC hc1)) (by omega)
  rintro n _ st10 ⟨k, rfl, hk, rfl, hle, hc, hz, hq⟩
  have hwd := hs.dblk k
  generalize hS : dblk s k = S at hc hwd
  refine br (fun hlt => ?_) fun hgt => ?_
  · have hk8 : k < 8 := by omega
    obtain ⟨hf, b1, b2, b3, b4⟩ := pl_ok hk8
    generalize hp : pl k = p at hf b1 b2 b3 b4
    have hn10q : st5.next < st10.next := St.lt_of_cells hq
    refine ⟨k, rfl, hk8, _, _, _, _, by rw [Nat.zero_add]; exact ldvf hq hf, fun st16 h16 => ⟨rfl, rfl, [.int .i64 0, .int .i64 0, .int .i64 0, .int .i64 0], by rw [h16]; exact cells_new _ _, by simp, fun st18 h18 => ?_⟩⟩
    rw [repl_all' (by rfl)] at h18
    have hn10 : st.next < st10.next := St.lt_of_cells hc
    have hn10' : st2.next < st10.next := St.lt_of_cells hz
    have hp18 : st18.cells st10.next = some (p4 p) := by rw [h18]; exact cells_set (cs := [.int .i64 0, .int .i64 0, .int .i64 0, .int .i64 0]) (by rw [h16]; exact cells_new _ _)
    have hc18 : st18.cells st.next = some (W32 S) := by rw [h18]; exact cells_set' (by rw [h16]; exact cells_new' hc) (by omega)
    have hz18 : st18.cells st2.next = some (List.replicate 16 (.int .u32 0)) := by rw [h18]; exact cells_set' (by rw [h16]; exact cells_new' hz) (by omega)
    have hq18 : st18.cells st5.next = some placesV := by rw [h18]; exact cells_set' (by rw [h16]; exact cells_new' hq) (by omega)
    have hle18 : st.le st18 := by rw [h18, h16]; exact (hle.new _).set (by omega) _
    obtain ⟨l0, l1, l2, l3⟩ := ldp hp18
    have hl := hwd.1
    refine ⟨_, l0, p.1, rfl, b1, _, ldw hc18 (by omega), _, l1, p.2.1, rfl, b2, _, ldw hc18 (by omega), _, l2, p.2.2.1, rfl, b3, _, ldw hc18 (by omega), _, l3, p.2.2.2, rfl, b4, _, ldw hc18 (by omega), ?_⟩
    refine (RRound_spec _ _ _ _ (hwd.getD _) (hwd.getD _) (hwd.getD _) (hwd.getD _) st18).mono ?_
    rintro _ st36 ⟨rfl, hle36⟩
    generalize hr : rnd (S.getD p.1 0) (S.getD p.2.1 0) (S.getD p.2.2.1 0) (S.getD p.2.2.2 0) = r
    have hp36 := hle36.getC hp18
    have hc36 := hle36.getC hc18
    obtain ⟨l0, l1, l2, l3⟩ := ldp hp36
    refine ⟨_, _, _, _, rfl, _, l0, _, l1, _, l2, _, l3, p.1, rfl, b1, _, hc36, by simp; omega, fun st43 h43 => ?_⟩
    rw [Nat.mul_one, Nat.zero_add, W32_set] at h43
    have hp43 : st43.cells st10.next = some (p4 p) := by rw [h43]; exact cells_set' hp36 (by omega)
    have hc43 : st43.cells st.next = some (W32 (S.set p.1 r.1)) := by rw [h43]; exact cells_set hc36
    obtain ⟨l0, l1, l2, l3⟩ := ldp hp43
    refine ⟨l1, l2, l3, p.2.1, rfl, b2, _, hc43, by simp; omega, fun st46 h46 => ?_⟩
    rw [Nat.mul_one, Nat.zero_add, W32_set] at h46
    have hp46 : st46.cells st10.next = some (p4 p) := by rw [h46]; exact cells_set' hp43 (by omega)
    have hc46 := cells_set (cs' := W32 ((S.set p.1 r.1).set p.2.1 r.2.1)) hc43
    rw [← h46] at hc46
    obtain ⟨l0, l1, l2, l3⟩ := ldp hp46
    refine ⟨l2, l3, p.2.2.1, rfl, b3, _, hc46, by simp; omega, fun st49 h49 => ?_⟩
    rw [Nat.mul_one, Nat.zero_add, W32_set] at h49
    have hp49 : st49.cells st10.next = some (p4 p) := by rw [h49]; exact cells_set' hp46 (by omega)
    have hc49 := cells_set (cs' := W32 (((S.set p.1 r.1).set p.2.1 r.2.1).set p.2.2.1 r.2.2.1)) hc46
    rw [← h49] at hc49
    obtain ⟨l0, l1, l2, l3⟩ := ldp hp49
    refine ⟨l3, p.2.2.2, rfl, b4, _, hc49, by simp; omega, fun st52 h52 => ?_⟩
    rw [Nat.mul_one, Nat.zero_add, W32_set] at h52
    have hc52 := cells_set (cs' := W32 ((((S.set p.1 r.1).set p.2.1 r.2.1).set p.2.2.1 r.2.2.1).set p.2.2.2 r.2.2.2)) hc49
    rw [← h52] at hc52
    refine ⟨8 - (k + 1), by omega, k + 1, by rw [w64 (by omega)]; omega, by omega, rfl, ?_, ?_, ?_, ?_⟩
    · rw [h52, h49, h46, h43]
      exact ((((hle18.trans hle36).set (Nat.le_refl _) _).set (Nat.le_refl _) _).set (Nat.le_refl _) _).set (Nat.le_refl _) _
    · rw [hc52, dblk_step, hS, hp]
      simp only [step, hr]
    · rw [h52]; refine cells_set' ?_ hne
      rw [h49]; refine cells_set' ?_ hne
      rw [h46]; refine cells_set' ?_ hne
      rw [h43]; exact cells_set' (hle36.getC hz18) hne
    · rw [h52]; refine cells_set' ?_ (by omega)
      rw [h49]; refine cells_set' ?_ (by omega)
      rw [h46]; refine cells_set' ?_ (by omega)
      rw [h43]; exact cells_set' (hle36.getC hq18) (by omega)
  · have : k = 8 := by omega
    subst this
    refine ⟨_, ldvg hc (by rw [W32_length]; exact hwd.1), by rw [W32_length]; exact hwd.1, rfl, _, hz, by simp, fun st4 h4 => ?_⟩
    rw [repl_all' (by rw [W32_length, hwd.1]; rfl)] at h4
    refine ⟨_, ldvg (by rw [h4]; exact cells_set hz) (by rw [W32_length]; exact hwd.1), ?_, ?_⟩
    · rw [dbl, hS]
    · rw [h4]; exact hle.set hge2 _
theorem RBlock_spec (key nonce : List UInt8) (ctr : Nat) (hk : key.length = 32) (hn : nonce.length = 12) (hc : ctr < 2 ^ 32) :
    Gives Tryz.prog F_ref1_Block [.agg (By key), .agg (By nonce), .int .u32 ctr] (.agg (By (blockL key nonce ctr))) := by
  intro st
  refine w_ref1_Block ?_
  intro st4 h4 st5 h5 st6 h6
  obtain ⟨c7, c8, hle10, hR, hge⟩ := ten_le h4 h5 h6 rfl rfl
  refine ⟨By nonce, c7, fun st8 h8 => ⟨By key, by rw [h8]; exact c8, fun st10 h10 => ?_⟩⟩
  rw [← h8, ← h10] at hle10 hR
  have hRn : st5.next < st10.next := St.lt_of_cells hR
  have hsn : st.next ≤ st10.next := by omega
  intro st11 h11
  refine ⟨rfl, rfl, List.replicate 16 (V.int .u32 0), by rw [h11]; exact cells_new _ _, by simp, fun st13 h13 => ?_⟩
  rw [base_V, repl_all' (by rfl)] at h13
  have c13 : st13.cells st10.next = some (W32 base16) := by rw [h13]; exact cells_set (cs := List.replicate 16 (V.int .u32 0)) (by rw [h11]; exact cells_new _ _)
  have r13 : st13.cells st5.next = some (By (List.replicate 64 0)) := by rw [h13]; exact cells_set' (by rw [h11]; exact cells_new' hR) (by omega)
  have l13 : st.le st13 := by rw [h13, h11]; exact (hle10.new _).set hsn _
  clear h13 h11 h10 h8 h6 h5 h4 c7 c8
  refine ⟨fun m i st' => ∃ k : Nat, i = k ∧ k ≤ 8 ∧ m = 8 - k ∧ st.le st' ∧ st'.cells st10.next = some (W32 (fillW 4 key base16 k)) ∧ st'.cells st5.next = some (By (List.replicate 64 0)), ⟨8, 0, rfl, by omega, rfl, l13, c13, r13⟩, ?_⟩
  rintro _ _ st17 ⟨k, rfl, hk8, rfl, l17, c17, r17⟩
  refine br (fun hlt => ?_) fun hge8 => ?_
  · refine ⟨by rw [By_length]; omega, 4 * k, 4 * k + 4, by rw [w64 (by omega)]; omega, by rw [w64 (n := 4 * (k : Int)) (by omega), w64 (by omega)]; omega, by omega, by omega, ?_⟩
    rw [By_take, By_drop]
    refine (RGet_spec _ _ (by simp; omega) st17).mono ?_
    rintro _ st21 ⟨rfl, hle⟩
    have hw := (fillW_wd (at_ := 4) (b := key) base_wd k).1
    refine ⟨_, rfl, 4 + k, by rw [w64 (by omega)]; omega, by omega, _, hle.getC c17, by rw [W32_length]; omega, fun st25 h25 => ?_⟩
    have hkw := kw_lt key k
    unfold kw at hkw
    rw [Nat.mul_one, Nat.zero_add, wu32 (by omega), W32_set] at h25
    refine ⟨8 - (k + 1), by omega, k + 1, by rw [w64 (by omega)]; omega, by omega, rfl, ?_, ?_, ?_⟩
    · rw [h25]; exact (l17.trans hle).set hsn _
    · rw [h25]; exact cells_set (hle.getC c17)
    · rw [h25]; exact cells_set' (hle.getC r17) (by omega)
  have : k = 8 := by omega
  subst this
  have hw8 := fillW_wd (at_ := 4) (b := key) base_wd 8
  refine ⟨_, c17, by rw [W32_length, hw8.1]; decide, fun st28 h28 => ?_⟩
  rw [W32_set] at h28
  have c28 := cells_set (cs' := W32 ((fillW 4 key base16 8).set 12 ctr)) c17
  rw [← h28] at c28
  have r28 : st28.cells st5.next = some (By (List.replicate 64 0)) := by rw [h28]; exact cells_set' r17 (by omega)
  have l28 : st.le st28 := by rw [h28]; exact l17.set hsn _
  have hw12 := hw8.set 12 hc
  refine ⟨fun m i st' => ∃ k : Nat, i = k ∧ k ≤ 3 ∧ m = 3 - k ∧ st.le st' ∧ st'.cells st10.next = some (W32 (fillW 13 nonce ((fillW 4 key base16 8).set 12 ctr) k)) ∧ st'.cells st5.next = some (By (List.replicate 64 0)), ⟨3, 0, rfl, by omega, rfl, l28, c28, r28⟩, ?_⟩
  rintro _ _ st32 ⟨k, rfl, hk3, rfl, l32, c32, r32⟩
  refine br (fun hlt => ?_) fun hge3 => ?_
  · refine ⟨by rw [By_length]; omega, 4 * k, 4 * k + 4, by rw [w64 (by omega)]; omega, by rw [w64 (n := 4 * (k : Int)) (by omega), w64 (by omega)]; omega, by omega, by omega, ?_⟩
    rw [By_take, By_drop]
    refine (RGet_spec _ _ (by simp; omega) st32).mono ?_
    rintro _ st36 ⟨rfl, hle⟩
    have hw := (fillW_wd (at_ := 13) (b := nonce) hw12 k).1
    refine ⟨_, rfl, 13 + k, by rw [w64 (by omega)]; omega, by omega, _, hle.getC c32, by rw [W32_length]; omega, fun st40 h40 => ?_⟩
    have hkw := kw_lt nonce k
    unfold kw at hkw
    rw [Nat.mul_one, Nat.zero_add, wu32 (by omega), W32_set] at h40
    refine ⟨3 - (k + 1), by omega, k + 1, by rw [w64 (by omega)]; omega, by omega, rfl, ?_, ?_, ?_⟩
    · rw [h40]; exact (l32.trans hle).set hsn _
    · rw [h40]; exact cells_set (hle.getC c32)
    · rw [h40]; exact cells_set' (hle.getC r32) (by omega)
  have : k = 3 := by omega
  subst this
  have hws := ini_wd key nonce hc
  have hS : fillW 13 nonce ((fillW 4 key base16 8).set 12 ctr) 3 = iniL key nonce ctr := rfl
  rw [hS] at c32
  generalize hSe : iniL key nonce ctr = S at c32 hws
  refine ⟨_, ldvg c32 (by rw [W32_length]; exact hws.1), fun st43 h43 => ⟨by rw [W32_length]; exact hws.1, rfl, List.replicate 16 (V.int .u32 0), by rw [h43]; exact cells_new _ _, by simp, fun st45 h45 => ?_⟩⟩
  rw [repl_all' (by rw [W32_length, hws.1]; rfl)] at h45
  have hn10 : st10.next < st32.next := St.lt_of_cells c32
  have hn5 : st5.next < st32.next := St.lt_of_cells r32
  have t45 : st45.cells st32.next = some (W32 S) := by rw [h45]; exact cells_set (cs := List.replicate 16 (V.int .u32 0)) (by rw [h43]; exact cells_new _ _)
  have c45 : st45.cells st10.next = some (W32 S) := by rw [h45]; exact cells_set' (by rw [h43]; exact cells_new' c32) (by omega)
  have r45 : st45.cells st5.next = some (By (List.replicate 64 0)) := by rw [h45]; exact cells_set' (by rw [h43]; exact cells_new' r32) (by omega)
  have l45 : st.le st45 := by rw [h45, h43]; exact (l32.new _).set (by omega) _
  refine ⟨fun m i st' => ∃ k : Nat, i = k ∧ k ≤ 10 ∧ m = 10 - k ∧ st.le st' ∧ st'.cells st32.next = some (W32 (itr S k)) ∧ st'.cells st10.next = some (W32 S) ∧ st'.cells st5.next = some (By (List.replicate 64 0)), ⟨10, 0, rfl, by omega, rfl, l45, t45, c45, r45⟩, ?_⟩
  rintro _ _ st49 ⟨k, rfl, hk10, rfl, l49, t49, c49, r49⟩
  have hwt := itr_wd hws k
  refine br (fun hlt => ?_) fun hge10 => ?_
  · refine ⟨_, ldvg t49 (by rw [W32_length]; exact hwt.1), ?_⟩
    refine (RDouble_spec _ hwt st49).mono ?_
    rintro _ st52 ⟨rfl, hle⟩
    refine ⟨_, rfl, by rw [W32_length]; exact (itr_wd hws (k + 1)).1, rfl, _, hle.getC t49, by rw [W32_length, hwt.1]; decide, fun st55 h55 => ?_⟩
    rw [repl_all' (by rw [W32_length, W32_length, hwt.1]; exact (itr_wd hws (k + 1)).1)] at h55
    refine ⟨10 - (k + 1), by omega, k + 1, by rw [w64 (by omega)]; omega, by omega, rfl, ?_, ?_, ?_, ?_⟩
    · rw [h55]; exact (l49.trans hle).set (by omega) _
    · rw [h55]; exact cells_set (hle.getC t49)
    · rw [h55]; exact cells_set' (hle.getC c49) (by omega)
    · rw [h55]; exact cells_set' (hle.getC r49) (by omega)
  have : k = 10 := by omega
  subst this
  generalize hTe : itr S 10 = T at t49 hwt
  intro st57 h57
  have hn49 : st32.next < st49.next := St.lt_of_cells t49
  refine ⟨fun m i st' => ∃ k : Nat, i = k ∧ k ≤ 16 ∧ m = 16 - k ∧ st.le st' ∧ st'.cells st49.next = some (By (outL S T k)) ∧ st'.cells st32.next = some (W32 T) ∧ st'.cells st10.next = some (W32 S) ∧ st'.cells st5.next = some (By (List.replicate 64 0)),
    ⟨16, 0, rfl, by omega, rfl, by rw [h57]; exact l49.new _, by rw [h57]; exact cells_new _ _, by rw [h57]; exact cells_new' t49, by rw [h57]; exact cells_new' c49, by rw [h57]; exact cells_new' r49⟩, ?_⟩
  rintro _ _ st61 ⟨k, rfl, hk16, rfl, l61, o61, t61, c61, r61⟩
  have hol := outL_len S T hk16
  refine br (fun hlt => ?_) fun hge16 => ?_
  · refine ⟨k, rfl, by omega, _, ldw t61 (by rw [hwt.1]; omega), k, rfl, by omega, _, ldw c61 (by rw [hws.1]; omega), ?_⟩
    rw [add32_wrap, show add32 (T.getD k 0) (S.getD k 0) = add32 (S.getD k 0) (T.getD k 0) by unfold add32; rw [Nat.add_comm]]
    have hX := add32_lt (S.getD k 0) (T.getD k 0)
    have hout : outL S T (k + 1) = repl (outL S T k) (4 * k) (putL (add32 (S.getD k 0) (T.getD k 0)) 4) := rfl
    generalize add32 (S.getD k 0) (T.getD k 0) = X at hX hout
    refine ⟨fun m i st' => ∃ q : Nat, i = q ∧ q ≤ 4 ∧ m = 4 - q ∧ st.le st' ∧ st'.cells st49.next = some (By (repl (outL S T k) (4 * k) (putL X q))) ∧ st'.cells st32.next = some (W32 T) ∧ st'.cells st10.next = some (W32 S) ∧ st'.cells st5.next = some (By (List.replicate 64 0)),
      ⟨4, 0, rfl, by omega, rfl, l61, by rw [putL, repl_nil]; exact o61, t61, c61, r61⟩, ?_⟩
    rintro _ _ st69 ⟨q, rfl, hq4, rfl, l69, o69, t69, c69, r69⟩
    have hol2 : (repl (outL S T k) (4 * k) (putL X q)).length = 64 := by rw [length_repl _ _ _ (by rw [putL_len]; omega)]; exact hol
    refine br (fun hlt4 => ?_) fun hge4 => ?_
    · rw [w64 (n := 8 * (q : Int)) (by omega), wu64 (n := 8 * (q : Int)) (by omega), w64 (n := 4 * (k : Int)) (by omega), w64 (by omega)]
      refine ⟨by omega, 4 * k + q, by omega, by omega, _, o69, by rw [By_length]; omega, fun st72 h72 => ?_⟩
      rw [show (8 * (q : Int)).toNat = 8 * q by omega, Nat.min_eq_left (by omega), fdiv_pow, wrap_u8_of, Nat.pow_mul, show (2 : Nat) ^ 8 = 256 from rfl, Nat.mul_one, Nat.zero_add] at h72
      have hset : (By (repl (outL S T k) (4 * k) (putL X q))).set (4 * k + q) (V.int .u8 ((UInt8.ofNat (X / 256 ^ q)).toNat : Int)) = By (repl (outL S T k) (4 * k) (putL X (q + 1))) := by
        rw [← repl_one _ _ _ (by rw [By_length]; omega), By_one, By_repl, putL_succ]
        have := repl_repl (outL S T k) (4 * k) (putL X q) [UInt8.ofNat (X / 256 ^ q)] (by rw [putL_len]; simp; omega)
        rw [putL_len] at this
        rw [this]
      rw [hset] at h72
      refine ⟨4 - (q + 1), by omega, q + 1, by rw [w64 (by omega)]; omega, by omega, rfl, ?_, ?_, ?_, ?_, ?_⟩
      · rw [h72]; exact l69.set (by omega) _
      · rw [h72]; exact cells_set o69
      · rw [h72]; exact cells_set' t69 (by omega)
      · rw [h72]; exact cells_set' c69 (by omega)
      · rw [h72]; exact cells_set' r69 (by omega)
    · have : q = 4 := by omega
      subst this
      exact ⟨16 - (k + 1), by omega, k + 1, by rw [w64 (by omega)]; omega, by omega, rfl, l69, by rw [hout]; exact o69, t69, c69, r69⟩
  have : k = 16 := by omega
  subst this
  refine ⟨_, ldvg o61 (by rw [By_length]; exact hol), by rw [By_length]; exact hol, rfl, _, r61, by simp, fun st76 h76 => ?_⟩
  rw [repl_all' (by rw [By_length, By_length, hol]; rfl)] at h76
  refine ⟨_, ldvg (by rw [h76]; exact cells_set r61) (by rw [By_length]; exact hol), ?_, by rw [h76]; exact l61.set hge _⟩
  rw [blockL, hSe, hTe]
end Go.Proofs.YtffenelcgjdbiaaGreatDoor
namespace Go.Proofs.YtffenelcgjdbiaaGreatDoor
open Go Go.Sim
set_option maxRecDepth 100000
def strB (key nonce : List UInt8) (ctr i : Nat) : UInt8 := (blockL key nonce (ctr + i / 64)).getD (i % 64) 0
def xorAt (key nonce : List UInt8) (ctr : Nat) : Nat → List UInt8 → List UInt8
  | _, [] => []
  | i, c :: r => (c ^^^ strB key nonce ctr i) :: xorAt key nonce ctr (i + 1) r
def xorL (key nonce : List UInt8) (ctr : Nat) (b : List UInt8) : List UInt8 := xorAt key nonce ctr 0 b
theorem xorAt_len (key nonce : List UInt8) (ctr i : Nat) (b : List UInt8) : (xorAt key nonce ctr i b).length = b.length := by
  induction b generalizing i with
  | nil => rfl
  | cons c b ih => simp [xorAt, ih]
@[simp] theorem xorL_len (key nonce : List UInt8) (ctr : Nat) (b : List UInt8) : (xorL key nonce ctr b).length = b.length := xorAt_len _ _ _ _ _
theorem xorAt_get (key nonce : List UInt8) (ctr i : Nat) (b : List UInt8) {k : Nat} (h : k < b.length) : (xorAt key nonce ctr i b)[k]? = some (b[k] ^^^ strB key nonce ctr (i + k)) := by
  induction b generalizing i k with
  | nil => simp at h
  | cons c b ih =>
    cases k with
    | zero => simp [xorAt]
    | succ k =>
      simp only [xorAt, List.getElem?_cons_succ, List.getElem_cons_succ]
      rw [ih (i + 1) (by simpa using h), show i + 1 + k = i + (k + 1) by omega]
theorem xor_twice (key nonce : List UInt8) (ctr : Nat) (b : List UInt8) : xorL key nonce ctr (xorL key nonce ctr b) = b := by
  have : ∀ i, xorAt key nonce ctr i (xorAt key nonce ctr i b) = b := by
    induction b with
    | nil => intro i; rfl
    | cons c b ih => intro i; simp [xorAt, ih, UInt8.xor_assoc]
  exact this 0
def xk (key nonce : List UInt8) (ctr : Nat) (b : List UInt8) (n : Nat) : List UInt8 := (xorL key nonce ctr b).take n ++ b.drop n
theorem xk_zero (key nonce : List UInt8) (ctr : Nat) (b : List UInt8) : xk key nonce ctr b 0 = b := by simp [xk]
theorem xk_all (key nonce : List UInt8) (ctr : Nat) (b : List UInt8) : xk key nonce ctr b b.length = xorL key nonce ctr b := by
  rw [xk, List.drop_length, List.append_nil, List.take_of_length_le (by rw [xorL_len]; exact Nat.le_refl _)]
@[simp] theorem xk_len (key nonce : List UInt8) (ctr : Nat) (b : List UInt8) (n : Nat) : (xk key nonce ctr b n).length = b.length := by simp [xk]; omega
theorem xk_get {key nonce : List UInt8} {ctr : Nat} {b : List UInt8} {n : Nat} (h : n < b.length) (sp : List UInt8) : (By (xk key nonce ctr b n ++ sp))[n]? = some (.int .u8 (b[n].toNat : Int)) := by
  have hl : n < (xk key nonce ctr b n ++ sp).length := by simp; omega
  rw [By_get hl]
  congr 3
  rw [List.getElem_append_left (by simp; omega)]
  simp only [xk]
  have e : (List.take n (xorL key nonce ctr b)).length = n := by simp; omega
  have hx : ∀ i (hi : i < b.length), i = n → b[i] = b[n] := by intro i hi e; subst e; rfl
  rw [List.getElem_append_right (by omega), List.getElem_drop]
  exact congrArg UInt8.toNat (hx _ _ (by omega))
theorem xk_set {key nonce : List UInt8} {ctr : Nat} {b : List UInt8} {n : Nat} (h : n < b.length) (sp : List UInt8) :
    (By (xk key nonce ctr b n ++ sp)).set n (.int .u8 ((b[n] ^^^ strB key nonce ctr n).toNat : Int)) = By (xk key nonce ctr b (n + 1) ++ sp) := by
  have hs : (By (xk key nonce ctr b n ++ sp)).set n (.int .u8 ((b[n] ^^^ strB key nonce ctr n).toNat : Int)) = By ((xk key nonce ctr b n ++ sp).set n (b[n] ^^^ strB key nonce ctr n)) := by
    simp [By, List.map_set]
  rw [hs]
  congr 1
  rw [List.set_append_left _ _ (by simp; omega)]
  congr 1
  have hx : (xorL key nonce ctr b)[n]? = some (b[n] ^^^ strB key nonce ctr n) := by
    have := xorAt_get key nonce ctr 0 b h
    rwa [Nat.zero_add] at this
  have hl : n < (xorL key nonce ctr b).length := by rw [xorL_len]; exact h
  rw [List.getElem?_eq_getElem hl, Option.some.injEq] at hx
  simp only [xk]
  rw [List.set_append_right _ _ (by simp; omega)]
  rw [show n - (List.take n (xorL key nonce ctr b)).length = 0 by simp; omega]
  rw [List.drop_eq_getElem_cons h, List.set_cons_zero, List.take_succ_eq_append_getElem hl, hx, List.append_assoc]
  rfl
theorem str_get {key nonce : List UInt8} {ctr a j : Nat} (h : j < 64) : (By (blockL key nonce (ctr + a)))[j]? = some (.int .u8 ((strB key nonce ctr (64 * a + j)).toNat : Int)) := by
  have e : strB key nonce ctr (64 * a + j) = (blockL key nonce (ctr + a)).getD j 0 := by
    unfold strB
    rw [show (64 * a + j) / 64 = a by omega, show (64 * a + j) % 64 = j by omega]
  have hl := block_len key nonce (ctr + a)
  rw [e]
  generalize blockL key nonce (ctr + a) = B at hl
  rw [By_get (by omega), List.getD_eq_getElem?_getD, List.getElem?_eq_getElem (by omega)]
  rfl
theorem Xor_spec (key nonce b : List UInt8) (ctr : Nat) (c : Cap) (hk : key.length = 32) (hn : nonce.length = 12) (hb : b ≠ []) (hl : b.length < 2 ^ 32) (hc : ctr + (b.length + 63) / 64 ≤ 2 ^ 32) (st : St) :
    RCall Tryz.prog F_chac_Xor [.agg (By key), .agg (By nonce), .int .u32 ctr, .lst 1 (By b) c] st fun r st' => ∃ c', r = .ret (.tup [.lst 1 (By (xorL key nonce ctr b)) c', .bool true]) ∧ Own st st' c' := by
  refine w_chac_Xor ?_
  rw [By_length]
  intro st5 h5 st6 h6 K hK
  have hpos : 0 < b.length := List.length_pos_iff.2 hb
  have e1 : IntKind.i64.wrap (Int.tdiv (IntKind.i64.wrap ((IntKind.i64.wrap ((b.length : Int) + 64)) - 1)) 64) = (((b.length + 63) / 64 : Nat) : Int) := by
    rw [w64 (n := (b.length : Int) + 64) (by omega), w64 (n := (b.length : Int) + 64 - 1) (by omega)]
    rw [show (b.length : Int) + 64 - 1 = ((b.length + 63 : Nat) : Int) by omega, show (64 : Int) = ((64 : Nat) : Int) from rfl, tdiv_nat, w64 (by omega)]
  rw [e1]
  refine br (fun _ => ?_) fun h => by omega
  have e2 : decide ((IntKind.u64.wrap ((IntKind.u64.wrap ((IntKind.u64.wrap (ctr : Int)) + (IntKind.u64.wrap (((b.length + 63) / 64 : Nat) : Int)))) - 1)) > 4294967295) = false := by
    rw [wu64 (n := (ctr : Int)) (by omega), wu64 (n := (((b.length + 63) / 64 : Nat) : Int)) (by omega), wu64 (n := (ctr : Int) + _) (by omega), wu64 (by omega)]
    simp; omega
  rw [e2]
  have k5 : st5.cells st.next = some (By key) := by rw [h5]; exact cells_new _ _
  have k6 : st6.cells st.next = some (By key) := by rw [h6]; exact cells_new' k5
  have n6 : st6.cells st5.next = some (By nonce) := by rw [h6]; exact cells_new _ _
  have hne : st.next < st5.next := by rw [h5]; simp
  have hne6 : st5.next < st6.next := by rw [h6]; simp
  have l6 : st.le st6 := by rw [h6, h5]; exact ((St.le.refl st).new _).new _
  refine hK _ _ ⟨fun h => (by cases h), fun _ => ⟨rfl, By b, rfl, by intro h; apply hb; cases b; rfl; simp [By] at h, by rw [By_length]; omega, fun k st12 hkl h12 => ?_⟩⟩
  rw [By_length, Nat.zero_add] at hkl
  have ho : flat ([] : List V) ++ flat (By b) ++ spare (.int .u8 0) (0 + (By b).length) k = By (b ++ List.replicate (k - b.length) 0) := by
    rw [By_flat, spare_u8, By_length, Nat.zero_add, By_append]; rfl
  rw [ho] at h12
  have hspl : b.length + (List.replicate (k - b.length) (0 : UInt8)).length = k := by simp; omega
  generalize List.replicate (k - b.length) (0 : UInt8) = sp at h12 hspl
  rw [show 0 + (By b).length = b.length by rw [By_length, Nat.zero_add]]
  refine ⟨fun m i st' => ∃ a : Nat, i = ((64 * a : Nat) : Int) ∧ 64 * a < b.length + 64 ∧ m = b.length + 64 - 64 * a ∧ st.le st' ∧ st'.cells st.next = some (By key) ∧ st'.cells st5.next = some (By nonce) ∧ st'.cells st6.next = some (By (xk key nonce ctr b (min (64 * a) b.length) ++ sp)),
    ⟨b.length + 64, 0, rfl, by omega, by omega, by rw [h12]; exact l6.new _, by rw [h12]; exact cells_new' k6, by rw [h12]; exact cells_new' n6, by rw [h12, Nat.mul_zero, Nat.zero_min, xk_zero]; exact cells_new _ _⟩, ?_⟩
  rintro _ _ st16 ⟨a, rfl, ha, rfl, l16, k16, n16, o16⟩
  refine br (fun hlt => ?_) fun hge => ?_
  · have hlt : 64 * a < b.length := by omega
    refine ⟨_, ldvg k16 (by rw [By_length]; exact hk), _, ldvg n16 (by rw [By_length]; exact hn), ?_⟩
    have e3 : IntKind.u32.wrap ((ctr : Int) + (IntKind.u32.wrap (IntKind.i64.wrap (Int.tdiv ((64 * a : Nat) : Int) 64)))) = ((ctr + a : Nat) : Int) := by
      rw [show (64 : Int) = ((64 : Nat) : Int) from rfl, tdiv_nat, show 64 * a / 64 = a by omega, w64 (by omega), wu32 (n := (a : Int)) (by omega), wu32 (n := (ctr : Int) + (a : Int)) (by omega)]; omega
    rw [e3]
    refine (Block_spec key nonce (ctr + a) hk hn (by omega) st16).mono ?_
    rintro _ st20 ⟨rfl, hle⟩
    refine ⟨_, rfl, fun st22 h22 => ⟨by rw [By_length]; exact block_len _ _ _, rfl, By (List.replicate 64 0), by rw [h22]; exact cells_new _ _, by simp, fun st24 h24 => ?_⟩⟩
    rw [repl_all' (by rw [By_length, By_length, block_len]; rfl)] at h24
    have k20 := hle.getC k16
    have n20 := hle.getC n16
    have o20 := hle.getC o16
    have hk20 := St.lt_of_cells k20
    have hn20 := St.lt_of_cells n20
    have ho20 := St.lt_of_cells o20
    have s24 : st24.cells st20.next = some (By (blockL key nonce (ctr + a))) := by rw [h24]; exact cells_set (cs := By (List.replicate 64 0)) (by rw [h22]; exact cells_new _ _)
    have k24 : st24.cells st.next = some (By key) := by rw [h24]; exact cells_set' (by rw [h22]; exact cells_new' k20) (by omega)
    have n24 : st24.cells st5.next = some (By nonce) := by rw [h24]; exact cells_set' (by rw [h22]; exact cells_new' n20) (by omega)
    have o24 := cells_set' (id := st20.next) (cs' := By (blockL key nonce (ctr + a))) (cells_new' (cs := By (List.replicate 64 0)) o20) (by omega)
    have l24 : st.le st24 := by rw [h24, h22]; exact ((l16.trans hle).new _).set (by omega) _
    have h22' : st22 = st20.newC (By (List.replicate 64 0)) := h22
    rw [← h22', ← h24, Nat.min_eq_left (by omega)] at o24
    clear h24 h22 h22' o20 n20 k20
    generalize hJ : min (64 * a + 64) b.length = j
    have e4 : min (IntKind.i64.wrap (((64 * a : Nat) : Int) + 64)) ((b.length : Nat) : Int) = (j : Int) := by rw [w64 (by omega)]; omega
    refine ⟨64 * a, j, rfl, e4, by omega, by omega, ?_⟩
    refine ⟨fun m i st' => ∃ q : Nat, i = q ∧ q ≤ j - 64 * a ∧ m = j - 64 * a - q ∧ st.le st' ∧ st'.cells st.next = some (By key) ∧ st'.cells st5.next = some (By nonce) ∧ st'.cells st20.next = some (By (blockL key nonce (ctr + a))) ∧ st'.cells st6.next = some (By (xk key nonce ctr b (64 * a + q) ++ sp)),
      ⟨j - 64 * a, 0, rfl, by omega, by omega, l24, k24, n24, s24, o24⟩, ?_⟩
    rintro _ _ st30 ⟨q, rfl, hq, rfl, l30, k30, n30, s30, o30⟩
    refine br (fun hql => ?_) fun hqg => ?_
    · have hi : 64 * a + q < b.length := by omega
      have e5 : IntKind.i64.wrap (((64 * a : Nat) : Int) + (q : Int)) = ((64 * a + q : Nat) : Int) := by rw [w64 (by omega)]; omega
      rw [e5]
      refine ⟨64 * a + q, rfl, by omega, _, ldv1 o30 (by rw [Nat.mul_one, Nat.zero_add]; exact xk_get hi sp), q, rfl, by omega, _, ldv1 s30 (by rw [Nat.mul_one, Nat.zero_add]; exact str_get (by omega)), 64 * a + q, rfl, by omega, _, o30, by simp; omega, fun st37 h37 => ?_⟩
      rw [Nat.mul_one, Nat.zero_add, xor_8, xk_set hi] at h37
      refine ⟨j - 64 * a - (q + 1), by omega, q + 1, by rw [w64 (by omega)]; omega, by omega, rfl, ?_, ?_, ?_, ?_, ?_⟩
      · rw [h37]; exact l30.set (by omega) _
      · rw [h37]; exact cells_set' k30 (by omega)
      · rw [h37]; exact cells_set' n30 (by omega)
      · rw [h37]; exact cells_set' s30 (by omega)
      · rw [h37]; exact cells_set o30
    · have : 64 * a + q = j := by omega
      rw [this] at o30
      exact ⟨b.length + 64 - 64 * (a + 1), by omega, a + 1, by rw [w64 (by omega)]; omega, by omega, rfl, l30, k30, n30, by rw [show 64 * (a + 1) = 64 * a + 64 by omega, hJ]; exact o30⟩
  · rw [Nat.min_eq_right (by omega), xk_all] at o16
    have hf := frz_By (l := xorL key nonce ctr b) (sp := sp) (cap := k) (by rw [xorL_len]; exact hspl)
    rw [xorL_len] at hf
    refine ⟨_, _, o16, hf, fun st42 h42 => ⟨_, rfl, ?_⟩⟩
    rw [h42]; exact Own.frz l16 (by omega)
theorem RXor_spec (key nonce b : List UInt8) (ctr : Nat) (c : Cap) (hk : key.length = 32) (hn : nonce.length = 12) (hb : b ≠ []) (hl : b.length < 2 ^ 32) (hc : ctr + (b.length + 63) / 64 ≤ 2 ^ 32) (st : St) :
    RCall Tryz.prog F_ref1_Xor [.agg (By key), .agg (By nonce), .int .u32 ctr, .lst 1 (By b) c] st fun r st' => ∃ c', r = .ret (.tup [.lst 1 (By (xorL key nonce ctr b)) c', .bool true]) ∧ Own st st' c' := by
  refine w_ref1_Xor ?_
  rw [By_length]
  intro st5 h5 st6 h6
  have hpos : 0 < b.length := List.length_pos_iff.2 hb
  have e1 : IntKind.i64.wrap (Int.tdiv (IntKind.i64.wrap ((b.length : Int) + 63)) 64) = (((b.length + 63) / 64 : Nat) : Int) := by
    rw [w64 (n := (b.length : Int) + 63) (by omega)]
    rw [show (b.length : Int) + 63 = ((b.length + 63 : Nat) : Int) by omega, show (64 : Int) = ((64 : Nat) : Int) from rfl, tdiv_nat, w64 (by omega)]
  rw [e1, w64 (n := (ctr : Int)) (by omega), w64 (n := 4294967296 - (ctr : Int)) (by omega)]
  refine br (fun h => by omega) fun _ => ?_
  have k5 : st5.cells st.next = some (By key) := by rw [h5]; exact cells_new _ _
  have k6 : st6.cells st.next = some (By key) := by rw [h6]; exact cells_new' k5
  have n6 : st6.cells st5.next = some (By nonce) := by rw [h6]; exact cells_new _ _
  have hne : st.next < st5.next := by rw [h5]; simp
  have hne6 : st5.next < st6.next := by rw [h6]; simp
  have l6 : st.le st6 := by rw [h6, h5]; exact ((St.le.refl st).new _).new _
  refine ⟨rfl, By b, rfl, by intro h; apply hb; cases b; rfl; simp [By] at h, by rw [By_length]; omega, fun k st12 hkl h12 => ?_⟩
  rw [By_length, Nat.zero_add] at hkl
  have ho : flat ([] : List V) ++ flat (By b) ++ spare (.int .u8 0) (0 + (By b).length) k = By (b ++ List.replicate (k - b.length) 0) := by
    rw [By_flat, spare_u8, By_length, Nat.zero_add, By_append]; rfl
  rw [ho] at h12
  have hspl : b.length + (List.replicate (k - b.length) (0 : UInt8)).length = k := by simp; omega
  generalize List.replicate (k - b.length) (0 : UInt8) = sp at h12 hspl
  rw [show 0 + (By b).length = b.length by rw [By_length, Nat.zero_add]]
  refine ⟨fun m i st' => ∃ a : Nat, i = ((64 * a : Nat) : Int) ∧ 64 * a < b.length + 64 ∧ m = b.length + 64 - 64 * a ∧ st.le st' ∧ st'.cells st.next = some (By key) ∧ st'.cells st5.next = some (By nonce) ∧ st'.cells st6.next = some (By (xk key nonce ctr b (min (64 * a) b.length) ++ sp)),
    ⟨b.length + 64, 0, rfl, by omega, by omega, by rw [h12]; exact l6.new _, by rw [h12]; exact cells_new' k6, by rw [h12]; exact cells_new' n6, by rw [h12, Nat.mul_zero, Nat.zero_min, xk_zero]; exact cells_new _ _⟩, ?_⟩
  rintro _ _ st16 ⟨a, rfl, ha, rfl, l16, k16, n16, o16⟩
  refine br (fun hlt => ?_) fun hge => ?_
  · have hlt : 64 * a < b.length := by omega
    refine ⟨_, ldvg k16 (by rw [By_length]; exact hk), _, ldvg n16 (by rw [By_length]; exact hn), ?_⟩
    have e3 : IntKind.u32.wrap ((ctr : Int) + (IntKind.u32.wrap (IntKind.i64.wrap (Int.tdiv ((64 * a : Nat) : Int) 64)))) = ((ctr + a : Nat) : Int) := by
      rw [show (64 : Int) = ((64 : Nat) : Int) from rfl, tdiv_nat, show 64 * a / 64 = a by omega, w64 (by omega), wu32 (n := (a : Int)) (by omega), wu32 (n := (ctr : Int) + (a : Int)) (by omega)]; omega
    rw [e3]
    refine (RBlock_spec key nonce (ctr + a) hk hn (by omega) st16).mono ?_
    rintro _ st20 ⟨rfl, hle⟩
    refine ⟨_, rfl, fun st22 h22 => ⟨by rw [By_length]; exact block_len _ _ _, rfl, By (List.replicate 64 0), by rw [h22]; exact cells_new _ _, by simp, fun st24 h24 => ?_⟩⟩
    rw [repl_all' (by rw [By_length, By_length, block_len]; rfl)] at h24
    have k20 := hle.getC k16
    have n20 := hle.getC n16
    have o20 := hle.getC o16
    have hk20 := St.lt_of_cells k20
    have hn20 := St.lt_of_cells n20
    have ho20 := St.lt_of_cells o20
    have s24 : st24.cells st20.next = some (By (blockL key nonce (ctr + a))) := by rw [h24]; exact cells_set (cs := By (List.replicate 64 0)) (by rw [h22]; exact cells_new _ _)
    have k24 : st24.cells st.next = some (By key) := by rw [h24]; exact cells_set' (by rw [h22]; exact cells_new' k20) (by omega)
    have n24 : st24.cells st5.next = some (By nonce) := by rw [h24]; exact cells_set' (by rw [h22]; exact cells_new' n20) (by omega)
    have o24 := cells_set' (id := st20.next) (cs' := By (blockL key nonce (ctr + a))) (cells_new' (cs := By (List.replicate 64 0)) o20) (by omega)
    have l24 : st.le st24 := by rw [h24, h22]; exact ((l16.trans hle).new _).set (by omega) _
    have h22' : st22 = st20.newC (By (List.replicate 64 0)) := h22
    rw [← h22', ← h24, Nat.min_eq_left (by omega)] at o24
    clear h24 h22 h22' o20 n20 k20
    generalize hJ : min (64 * a + 64) b.length = j
    refine ⟨fun m i st' => ∃ q : Nat, i = q ∧ q ≤ j - 64 * a ∧ m = j - 64 * a - q ∧ st.le st' ∧ st'.cells st.next = some (By key) ∧ st'.cells st5.next = some (By nonce) ∧ st'.cells st20.next = some (By (blockL key nonce (ctr + a))) ∧ st'.cells st6.next = some (By (xk key nonce ctr b (64 * a + q) ++ sp)),
      ⟨j - 64 * a, 0, rfl, by omega, by omega, l24, k24, n24, s24, o24⟩, ?_⟩
    rintro _ _ st30 ⟨q, rfl, hq, rfl, l30, k30, n30, s30, o30⟩
    have e5 : IntKind.i64.wrap (((64 * a : Nat) : Int) + (q : Int)) = ((64 * a + q : Nat) : Int) := by rw [w64 (by omega)]; omega
    rw [e5]
    have hj1 : ¬ ((q : Int) < 64) → 64 * a + q = j := fun h => by omega
    have hj2 : ¬ (((64 * a + q : Nat) : Int) < (b.length : Int)) → 64 * a + q = j := fun h => by omega
    have stop : 64 * a + q = j → ∃ n37, n37 < b.length + 64 - 64 * a ∧ ∃ a' : Nat, IntKind.i64.wrap (((64 * a : Nat) : Int) + 64) = ((64 * a' : Nat) : Int) ∧ 64 * a' < b.length + 64 ∧ n37 = b.length + 64 - 64 * a' ∧ st.le st30 ∧ st30.cells st.next = some (By key) ∧ st30.cells st5.next = some (By nonce) ∧ st30.cells st6.next = some (By (xk key nonce ctr b (min (64 * a') b.length) ++ sp)) := by
      intro this
      rw [this] at o30
      exact ⟨b.length + 64 - 64 * (a + 1), by omega, a + 1, by rw [w64 (by omega)]; omega, by omega, rfl, l30, k30, n30, by rw [show 64 * (a + 1) = 64 * a + 64 by omega, hJ]; exact o30⟩
    intro K27 hK27
    refine br (fun hql => ?_) fun hqg => ?_
    · refine hK27 _ _ ⟨fun hi => ?_, fun hi => stop (hj2 (of_decide_eq_false hi))⟩
      clear stop
      have hi : 64 * a + q < b.length := by have := of_decide_eq_true hi; omega
      refine ⟨64 * a + q, rfl, by omega, _, ldv1 o30 (by rw [Nat.mul_one, Nat.zero_add]; exact xk_get hi sp), q, rfl, by omega, _, ldv1 s30 (by rw [Nat.mul_one, Nat.zero_add]; exact str_get (by omega)), 64 * a + q, rfl, by omega, _, o30, by simp; omega, fun st37 h37 => ?_⟩
      rw [Nat.mul_one, Nat.zero_add, xor_8, xk_set hi] at h37
      refine ⟨j - 64 * a - (q + 1), by omega, q + 1, by rw [w64 (by omega)]; omega, by omega, rfl, ?_, ?_, ?_, ?_, ?_⟩
      · rw [h37]; exact l30.set (by omega) _
      · rw [h37]; exact cells_set' k30 (by omega)
      · rw [h37]; exact cells_set' n30 (by omega)
      · rw [h37]; exact cells_set' s30 (by omega)
      · rw [h37]; exact cells_set o30
    · exact hK27 _ _ ⟨fun h => (by cases h), fun _ => stop (hj1 hqg)⟩
  · rw [Nat.min_eq_right (by omega), xk_all] at o16
    have hf := frz_By (l := xorL key nonce ctr b) (sp := sp) (cap := k) (by rw [xorL_len]; exact hspl)
    rw [xorL_len] at hf
    refine ⟨_, _, o16, hf, fun st42 h42 => ⟨_, rfl, ?_⟩⟩
    rw [h42]; exact Own.frz l16 (by omega)
end Go.Proofs.YtffenelcgjdbiaaGreatDoor
namespace Go.Proofs.YtffenelcgjdbiaaGreatDoor
open Go Go.Sim
set_option maxRecDepth 100000
theorem Clone_spec (l : List V) (c : Cap) (hl : l.length ≤ 2 ^ 40) (st : St) : RCall Tryz.prog F_slices_Clone_byte_byte [.lst 1 l c] st fun r st' => ∃ c', r = .ret (.lst 1 l c') ∧ Own st st' c' := by
  refine w_slices_Clone_byte_byte ?_
  intro b hb _
  refine brb (fun h => ⟨_, by rw [hb h], Own.nil (.refl st)⟩) fun _ => ?_
  have ho : Own st st .exact := Own.exact (.refl st)
  refine ⟨ho.has (by omega), fun c' st' ha => ⟨c', by rw [List.nil_append], ho.app ha⟩⟩
theorem Equal_spec (a b : List UInt8) (c d : Cap) : Gives Tryz.prog F_bytes_Equal [.lst 1 (By a) c, .lst 1 (By b) d] (.bool (a == b)) := by
  intro st
  refine w_bytes_Equal ?_
  exact ⟨a, strOf_By a, b, strOf_By b, rfl, .refl st⟩
def headL (boot seq : Nat) : List UInt8 := putL boot 4 ++ putL seq 8
@[simp] theorem head_len (boot seq : Nat) : (headL boot seq).length = 12 := by simp [headL]
theorem repl_app {l a b c : List UInt8} (h : l.length = a.length + b.length) : repl (repl l 0 a) (0 + a.length * 1) b = a ++ b := by
  have h1 := repl_repl l 0 a b (by omega)
  rw [Nat.zero_add] at h1
  rw [Nat.mul_one, Nat.zero_add, h1]
  exact repl_all l (a ++ b) (by simp [h])
theorem Head_spec (boot seq : Nat) (hb : boot < 2 ^ 32) (hs : seq < 2 ^ 64) : Gives Tryz.prog F_seal_Head [.int .u32 boot, .int .u64 seq] (.agg (By (headL boot seq))) := by
  intro st
  refine w_seal_Head ?_
  intro st3 h3 st4 h4
  have z12 : List.replicate 12 (V.int .u8 0) = By (List.replicate 12 0) := rfl
  rw [z12] at h3 h4
  have c3 : st4.cells st.next = some (By (List.replicate 12 0)) := by rw [h4]; exact cells_new' (by rw [h3]; exact cells_new _ _)
  have c4 : st4.cells st3.next = some (By (List.replicate 12 0)) := by rw [h4]; exact cells_new _ _
  have l4 : st.le st4 := by rw [h4, h3]; exact ((St.le.refl st).new _).new _
  have hne : st.next < st3.next := by rw [h3]; simp
  rw [wu64 (by omega)]
  refine (Put_spec boot 4 (by omega) st4).mono ?_
  rintro _ st6 ⟨c1, rfl, o1⟩
  refine ⟨_, _, rfl, _, _, rfl, o1.le.getC c4, by simp, fun st10 h10 => ?_⟩
  rw [By_length, putL_len, show min 4 12 = 4 from rfl, List.take_of_length_le (by simp), By_flat, By_repl] at h10
  have c10 := cells_set (cs' := By (repl (List.replicate 12 0) 0 (putL boot 4))) (o1.le.getC c4)
  rw [← h10] at c10
  refine ⟨4, rfl, by omega, ?_⟩
  refine (Put_spec seq 8 (by omega) st10).mono ?_
  rintro _ st13 ⟨c2, rfl, o2⟩
  refine ⟨_, _, rfl, _, _, rfl, o2.le.getC c10, ?_, fun st17 h17 => ?_⟩
  · rw [By_length, By_length, putL_len, length_repl _ _ _ (by simp)]; decide
  rw [By_length, putL_len, if_neg (by decide), show min 8 (12 - 4) = 8 from rfl, List.take_of_length_le (by simp), By_flat, By_repl] at h17
  have e := repl_app (l := List.replicate 12 0) (a := putL boot 4) (b := putL seq 8) (c := []) (by simp)
  rw [putL_len] at e
  rw [e] at h17
  have c17 := cells_set (cs' := By (putL boot 4 ++ putL seq 8)) (o2.le.getC c10)
  rw [← h17] at c17
  have d17 : st17.cells st.next = some (By (List.replicate 12 0)) := by
    rw [h17]; refine cells_set' (o2.le.getC ?_) (by omega)
    rw [h10]; exact cells_set' (o1.le.getC c3) (by omega)
  have l17 : st.le st17 := by rw [h17]; refine (St.le.trans ?_ o2.le).set (by omega) _; rw [h10]; exact (l4.trans o1.le).set (by omega) _
  refine ⟨_, ldvg c17 (by simp), by simp, rfl, _, d17, by simp, fun st20 h20 => ?_⟩
  rw [repl_all' (by simp)] at h20
  exact ⟨_, ldvg (by rw [h20]; exact cells_set d17) (by simp), rfl, by rw [h20]; exact l17.set (Nat.le_refl _) _⟩
def basis : Nat := 14695981039346656037
def sealL (key : List UInt8) (boot seq : Nat) (plain : List UInt8) (size : Nat) : List UInt8 :=
  let h := headL boot seq
  let p := padL plain (size - 22)
  h ++ xorL key h 0 (p ++ putL (sumL basis (h ++ p)) 8)
def sealO (key : List UInt8) (boot seq : Nat) (plain : List UInt8) (size : Nat) : Option (List UInt8) :=
  if 22 ≤ size ∧ size - 22 ≤ 60000 ∧ plain.length + 22 ≤ size then some (sealL key boot seq plain size) else none
theorem Seal_spec (key plain : List UInt8) (boot seq size : Nat) (c : Cap) (hk : key.length = 32) (hb : boot < 2 ^ 32) (hs : seq < 2 ^ 64) (hz : size < 2 ^ 31) (st : St) :
    RCall Tryz.prog F_seal_Seal [.agg (By key), .int .u32 boot, .int .u64 seq, .lst 1 (By plain) c, .int .i64 size] st fun r st' => RetO st r st' (sealO key boot seq plain size) := by
  refine w_seal_Seal ?_
  intro st6 h6
  have k6 : st6.cells st.next = some (By key) := by rw [h6]; exact cells_new _ _
  have l6 : st.le st6 := by rw [h6]; exact (St.le.refl st).new _
  refine (Head_spec boot seq hb hs st6).mono ?_
  rintro _ st8 ⟨rfl, hle8⟩
  refine ⟨_, rfl, fun st10 h10 => ⟨by simp, rfl, List.replicate 12 (V.int .u8 0), by rw [h10]; exact cells_new _ _, by simp, fun st12 h12 => ?_⟩⟩
  rw [repl_all' (by simp)] at h12
  have k8 := hle8.getC k6
  have hk8 := St.lt_of_cells k8
  have k12 : st12.cells st.next = some (By key) := by rw [h12]; exact cells_set' (by rw [h10]; exact cells_new' k8) (by omega)
  have d12 : st12.cells st8.next = some (By (headL boot seq)) := by rw [h12]; exact cells_set (cs := List.replicate 12 (V.int .u8 0)) (by rw [h10]; exact cells_new _ _)
  have l12 : st.le st12 := by rw [h12, h10]; exact ((l6.trans hle8).new _).set (by omega) _
  refine br (fun h => ?_) fun h => ?_
  · rw [show sealO key boot seq plain size = none by unfold sealO; rw [if_neg (by omega)]]; exact ⟨rfl, l12⟩
  refine ⟨_, d12, fun st14 h14 => ?_⟩
  have k14 : st14.cells st.next = some (By key) := by rw [h14]; exact cells_kill k12 (by omega)
  have l14 : st.le st14 := by rw [h14]; exact (l12.kill (by omega)).newT
  refine w_seal_Room ⟨_, rfl, ?_⟩
  rw [w64 (by omega)]
  refine (Pad_spec plain c _ st14).mono ?_
  intro r19 st19 hr
  have hpad : padO plain ((size : Int) - 22) = if size - 22 ≤ 60000 ∧ plain.length + 22 ≤ size then some (padL plain (size - 22)) else none := by
    unfold padO
    by_cases hq : size - 22 ≤ 60000 ∧ plain.length + 22 ≤ size
    · rw [if_pos hq, if_pos (by omega), show ((size : Int) - 22).toNat = size - 22 by omega]
    · rw [if_neg hq, if_neg (by omega)]
  rw [hpad] at hr
  by_cases hq : size - 22 ≤ 60000 ∧ plain.length + 22 ≤ size
  · rw [if_pos hq] at hr
    obtain ⟨c', rfl, ho⟩ := hr
    have hpl : (padL plain (size - 22)).length = size - 20 := by rw [padL_len (by omega)]; omega
    have hso : sealO key boot seq plain size = some (sealL key boot seq plain size) := by unfold sealO; rw [if_pos ⟨by omega, hq⟩]
    rw [hso]
    have hsl : sealL key boot seq plain size = headL boot seq ++ xorL key (headL boot seq) 0 (padL plain (size - 22) ++ putL (sumL basis (headL boot seq ++ padL plain (size - 22))) 8) := rfl
    rw [hsl]
    have hh : (headL boot seq).length = 12 := head_len _ _
    generalize headL boot seq = H at hh
    generalize padL plain (size - 22) = p at hpl ho
    refine ⟨_, _, _, rfl, fun h => (by cases h), fun _ => ?_⟩
    refine ⟨by rw [By_length]; omega, ?_⟩
    rw [By_take, List.take_of_length_le (show H.length ≤ 12 by omega)]
    have hS := Sum_spec [(H, Cap.unk), (p, Cap.unk)] .exact (by simp) (by
      intro q hq
      simp only [List.mem_cons, List.not_mem_nil, or_false] at hq
      rcases hq with rfl | rfl
      · show H.length < _; omega
      · show p.length < _; omega) st19
    simp only [List.map_cons, List.map_nil, List.flatten_cons, List.flatten_nil, List.append_nil] at hS
    refine hS.mono ?_
    rintro _ st23 ⟨rfl, hle23⟩
    refine ⟨_, rfl, ?_⟩
    refine (Put_spec _ 8 (by omega) st23).mono ?_
    rintro _ st26 ⟨c2, rfl, ho2⟩
    have ho26 := ho.step (hle23.trans ho2.le)
    refine ⟨_, _, rfl, ho26.has (by simp; omega), fun c28 st29 ha => ?_⟩
    have ho29 := ho26.app ha
    have k29 : st29.cells st.next = some (By key) := ho29.le.getC k14
    refine ⟨_, ldvg k29 (by rw [By_length]; exact hk), By H, by unfold fldV; rw [if_pos (by simp; omega), By_drop, By_take, List.drop_zero, List.take_of_length_le (by omega)]; rfl, ?_⟩
    rw [← By_append]
    refine (Xor_spec key H _ 0 _ hk hh (by intro h; have := congrArg List.length h; simp at this) (by simp; omega) (by simp; omega) st29).mono ?_
    rintro _ st33 ⟨c3, rfl, ho3⟩
    have l33 : st.le st33 := l14.trans (ho29.le.trans ho3.le)
    have hf : Own st st33 .full := Own.full l33
    refine ⟨_, _, _, rfl, by rw [By_length]; omega, hf.has (by simp; omega), fun c4 st37 ha4 => ⟨c4, ?_, hf.app ha4⟩⟩
    rw [By_append]
    rfl
  · rw [if_neg hq] at hr
    obtain ⟨rfl, hle⟩ := hr
    rw [show sealO key boot seq plain size = none by unfold sealO; rw [if_neg (fun h => hq h.2)]]
    exact ⟨_, _, _, rfl, fun _ => ⟨rfl, l14.trans hle⟩, fun h => (by cases h)⟩
def openL (key b : List UInt8) : Option (List UInt8 × Nat × Nat) :=
  let h := b.take 12
  let x := xorL key h 0 (b.drop 12)
  let p := x.take (x.length - 8)
  if 22 ≤ b.length then
    match unpadO p ((b.length : Int) - 22) with
    | some q => if x.drop (x.length - 8) = putL (sumL basis (h ++ p)) 8 then some (q, getL (h.take 4), getL (h.drop 4)) else none
    | none => none
  else none
def OpenR (st : St) (r : Res) (st' : St) (o : Option (List UInt8 × Nat × Nat)) : Prop :=
  match o with
  | some (q, boot, seq) => ∃ c', r = .ret (.tup [.lst 1 (By q) c', .int .u32 boot, .int .u64 seq, .bool true]) ∧ Own st st' c'
  | none => r = .ret (.tup [.lst 1 [] .nil, .int .u32 0, .int .u64 0, .bool false]) ∧ st.le st'
theorem flat_By_take (l : List UInt8) (n : Nat) : flat ((By l).take n) = By (l.take n) := by rw [By_take, By_flat]
theorem Open_spec (key b : List UInt8) (c : Cap) (hk : key.length = 32) (hb : b.length < 2 ^ 31) (st : St) :
    RCall Tryz.prog F_seal_Open [.agg (By key), .lst 1 (By b) c] st fun r st' => OpenR st r st' (openL key b) := by
  refine w_seal_Open ?_
  rw [By_length]
  intro st3 h3
  have k3 : st3.cells st.next = some (By key) := by rw [h3]; exact cells_new _ _
  have l3 : st.le st3 := by rw [h3]; exact (St.le.refl st).new _
  have hk3 := St.lt_of_cells k3
  refine br (fun h => ?_) fun h => ?_
  · rw [show openL key b = none by unfold openL; simp only; rw [if_neg (by omega)]]; exact ⟨rfl, l3⟩
  have hb22 : 22 ≤ b.length := by omega
  have hop : openL key b = (match unpadO ((xorL key (b.take 12) 0 (b.drop 12)).take ((xorL key (b.take 12) 0 (b.drop 12)).length - 8)) ((b.length : Int) - 22) with
    | some q => if (xorL key (b.take 12) 0 (b.drop 12)).drop ((xorL key (b.take 12) 0 (b.drop 12)).length - 8) = putL (sumL basis (b.take 12 ++ (xorL key (b.take 12) 0 (b.drop 12)).take ((xorL key (b.take 12) 0 (b.drop 12)).length - 8))) 8 then some (q, getL ((b.take 12).take 4), getL ((b.take 12).drop 4)) else none
    | none => none) := by unfold openL; simp only; rw [if_pos hb22]
  rw [hop]
  have hH : (b.take 12).length = 12 := by simp; omega
  have hxl : (xorL key (b.take 12) 0 (b.drop 12)).length = b.length - 12 := by simp
  have hf12 : fldV (By (b.take 12)) 0 12 true = some (.agg (By (b.take 12))) := by
    unfold fldV; rw [if_pos (by simp; omega), By_drop, By_take, List.drop_zero, List.take_of_length_le (by omega)]; rfl
  have hfl : fldV (flat (((By b).take 12).take 12)) 0 12 true = some (.agg (By (b.take 12))) := by
    rw [By_take, flat_By_take, List.take_of_length_le (by omega)]; exact hf12
  refine ⟨12, rfl, by omega, by simp; omega, By (b.take 12), hfl, fun st6 h6 => ⟨by rw [By_length]; exact hH, rfl, List.replicate 12 (V.int .u8 0), by rw [h6]; exact cells_new _ _, by simp, fun st8 h8 => ?_⟩⟩
  rw [repl_all' (by rw [By_length, hH]; rfl)] at h8
  have k8 : st8.cells st.next = some (By key) := by rw [h8]; exact cells_set' (by rw [h6]; exact cells_new' k3) (by omega)
  have d8 : st8.cells st3.next = some (By (b.take 12)) := by rw [h8]; exact cells_set (cs := List.replicate 12 (V.int .u8 0)) (by rw [h6]; exact cells_new _ _)
  have l8 : st.le st8 := by rw [h8, h6]; exact (l3.new _).set (by omega) _
  refine ⟨_, d8, fun st10 h10 => ?_⟩
  have k10 : st10.cells st.next = some (By key) := by rw [h10]; exact cells_kill k8 (by omega)
  have l10 : st.le st10 := by rw [h10]; exact (l8.kill (by omega)).newT
  refine ⟨_, ldvg k10 (by rw [By_length]; exact hk), _, hf12, 12, rfl, by omega, ?_⟩
  rw [By_drop]
  refine (Xor_spec key (b.take 12) (b.drop 12) 0 _ hk hH (by intro h; have := congrArg List.length h; simp at this; omega) (by simp; omega) (by simp; omega) st10).mono ?_
  rintro _ st15 ⟨c1, rfl, ho⟩
  generalize hX : xorL key (b.take 12) 0 (b.drop 12) = x at hxl
  generalize hHe : b.take 12 = H at hH hf12
  refine ⟨_, _, _, rfl, x.length - 8, by rw [By_length, w64 (by omega)]; omega, by rw [By_length]; omega, x.length - 8, by rw [By_length, w64 (by omega)]; omega, by rw [By_length]; omega, ?_⟩
  refine w_seal_Room ⟨_, rfl, ?_⟩
  rw [w64 (by omega), By_take, By_drop]
  refine (Unpad_spec (x.take (x.length - 8)) _ ((b.length : Int) - 22) (by simp; omega) st15).mono ?_
  intro r23 st24 hr
  cases hu : unpadO (x.take (x.length - 8)) ((b.length : Int) - 22) with
  | none =>
    rw [hu] at hr
    obtain ⟨rfl, hle⟩ := hr
    refine ⟨_, _, _, rfl, fun K hK => ⟨fun h => (by cases h), fun _ => hK _ _ ⟨fun _ => ⟨rfl, l10.trans (ho.le.trans hle)⟩, fun h => (by cases h)⟩⟩⟩
  | some q =>
    rw [hu] at hr
    obtain ⟨c2, rfl, ho2⟩ := hr
    simp only
    refine ⟨_, _, _, rfl, fun K hK => ⟨fun _ => ⟨by rw [By_length]; omega, ?_⟩, fun h => (by cases h)⟩⟩
    rw [By_take, List.take_of_length_le (show H.length ≤ 12 by omega)]
    have hS := Sum_spec [(H, Cap.unk), (x.take (x.length - 8), Cap.unk)] .exact (by simp) (by
      intro q hq
      simp only [List.mem_cons, List.not_mem_nil, or_false] at hq
      rcases hq with rfl | rfl
      · show H.length < _; omega
      · show (x.take _).length < _; simp; omega) st24
    simp only [List.map_cons, List.map_nil, List.flatten_cons, List.flatten_nil, List.append_nil] at hS
    refine hS.mono ?_
    rintro _ st28 ⟨rfl, hle28⟩
    refine ⟨_, rfl, ?_⟩
    refine (Put_spec _ 8 (by omega) st28).mono ?_
    rintro _ st31 ⟨c3, rfl, ho3⟩
    refine ⟨_, _, rfl, ?_⟩
    refine (Equal_spec _ _ _ _ st31).mono ?_
    rintro _ st34 ⟨rfl, hle34⟩
    have hsl : st24.le st34 := hle28.trans (ho3.le.trans hle34)
    have ho34 : Own st st34 c2 := Own.trans (l10.trans ho.le) (ho2.step hsl)
    refine ⟨_, rfl, hK _ _ ⟨fun hne => ?_, fun heq => ?_⟩⟩
    · have hne : ¬ x.drop (x.length - 8) = putL (sumL basis (H ++ x.take (x.length - 8))) 8 := by
        intro he; rw [show sumL basis = sumL 14695981039346656037 from rfl] at he; rw [he] at hne; simp at hne
      rw [if_neg hne]; exact ⟨rfl, ho34.le⟩
    · have heq : x.drop (x.length - 8) = putL (sumL basis (H ++ x.take (x.length - 8))) 8 := by
        rw [Bool.not_eq_false'] at heq; exact eq_of_beq heq
      rw [if_pos heq]
      refine ⟨by rw [By_length]; omega, 4, rfl, by omega, by rw [By_length]; omega, 4, rfl, by omega, ?_⟩
      rw [By_take, By_take, List.take_of_length_le (show H.length ≤ 12 by omega), By_drop]
      refine (Get_spec (H.take 4) _ (by simp; omega) st34).mono ?_
      rintro _ st42 ⟨rfl, hle42⟩
      refine ⟨_, rfl, ?_⟩
      refine (Get_spec (H.drop 4) _ (by simp; omega) st42).mono ?_
      rintro _ st45 ⟨rfl, hle45⟩
      have hg : getL (H.take 4) < 2 ^ 32 := by
        have := getL_lt (H.take 4)
        rw [List.length_take, Nat.min_eq_left (by omega)] at this
        exact this
      refine ⟨_, rfl, c2, ?_, ho34.step (hle42.trans hle45)⟩
      rw [wu32 (by omega)]
theorem RSum_spec (b : List UInt8) (c : Cap) (hb : b.length < 2 ^ 62) : Gives Tryz.prog F_ref1_Sum [.lst 1 (By b) c] (.int .u64 (sumL basis b)) := by
  intro st
  refine w_ref1_Sum ?_
  rw [By_length]
  refine ⟨fun m out i st' => ∃ j : Nat, i = j ∧ j ≤ b.length ∧ m = b.length - j ∧ out = (sumL basis (b.take j) : Int) ∧ st' = st, ⟨b.length, 0, rfl, by omega, by omega, by simp [sumL, basis], rfl⟩, ?_⟩
  rintro m _ _ st2 ⟨j, rfl, hj, rfl, rfl, rfl⟩
  refine br (fun hjl => ?_) fun hjg => ?_
  · have hj' : j < b.length := by omega
    refine ⟨j, rfl, _, By_get hj', b.length - (j + 1), by omega, j + 1, ?_, by omega, rfl, ?_, rfl⟩
    · rw [w64 (by omega)]; omega
    · rw [sum_step _ _ (sumL_lt _ (by decide)), List.take_succ_eq_append_getElem hj', sumL_append, sumL_one]
  · rw [List.take_of_length_le (by omega)]
    exact ⟨rfl, .refl _⟩
theorem RUnpad_spec (b : List UInt8) (c : Cap) (most : Int) (hb : b.length < 2 ^ 40) (st : St) : RCall Tryz.prog F_ref1_Unpad [.lst 1 (By b) c, .int .i64 most] st fun r st' => RetO st r st' (unpadO b most) := by
  refine w_ref1_Unpad ?_
  rw [By_length]
  intro K hK
  have bad : unpadO b most = none → K true st := fun hn => hK _ _ fun K7 h7 => ⟨fun h => (by cases h), fun _ => h7 _ _ ⟨fun _ => by rw [hn]; exact ⟨rfl, .refl _⟩, fun h => (by cases h)⟩⟩
  refine br' (fun h0 => ?_) fun h0 => bad (by unfold unpadO; rw [if_neg (by omega)])
  refine hK _ _ fun K7 h7 => ⟨fun h => ?_, fun h => ?_⟩
  · have h1 := of_decide_eq_false h
    refine h7 _ _ ⟨fun h2 => ?_, fun h2 => ?_⟩
    · rw [w64 (by omega)] at h2
      have h2 : (b.length : Int) ≠ most + 2 := by simpa using h2
      rw [show unpadO b most = none by unfold unpadO unpadL; rw [if_pos (by omega)]; simp only; rw [if_neg (by omega)]]
      exact ⟨rfl, .refl _⟩
    · rw [w64 (by omega)] at h2
      have h2 : (b.length : Int) = most + 2 := by simpa using h2
      refine ⟨2, rfl, by omega, ?_⟩
      rw [By_take]
      refine (RGet_spec (b.take 2) _ (by simp; omega) st).mono ?_
      rintro _ st1 ⟨rfl, hle⟩
      refine ⟨_, rfl, ?_⟩
      have hG : getL (b.take 2) < 65536 := by
        have := getL_lt (b.take 2)
        rw [List.length_take, Nat.min_eq_left (by omega)] at this
        exact this
      generalize hg : getL (b.take 2) = G at hG
      have hun : unpadO b most = if (G : Int) ≤ most ∧ (b.drop (2 + G)).all (· == 0) = true then some ((b.take (2 + G)).drop 2) else none := by
        unfold unpadO unpadL
        rw [if_pos (by omega)]
        simp only [hg]
        by_cases hq : (G : Int) ≤ most ∧ (b.drop (2 + G)).all (· == 0) = true
        · rw [if_pos hq, if_pos ⟨by omega, by omega, hq.2⟩]
        · rw [if_neg hq, if_neg (fun h => hq ⟨by omega, h.2.2⟩)]
      rw [w64 (n := (G : Int)) (by omega)]
      refine br (fun h3 => ?_) fun h3 => ?_
      · rw [hun, if_neg (by omega)]; exact ⟨rfl, hle⟩
      refine ⟨fun m i st' => ∃ k : Nat, i = k ∧ 2 + G ≤ k ∧ k ≤ b.length ∧ m = b.length - k ∧ ((b.take k).drop (2 + G)).all (· == 0) = true ∧ st' = st1, ⟨b.length - (2 + G), 2 + G, by rw [w64 (by omega)]; omega, by omega, by omega, rfl, by
        rw [List.drop_of_length_le (by simp; omega)]; rfl, rfl⟩, ?_⟩
      rintro _ _ st2 ⟨k, rfl, hk1, hk2, rfl, hz, rfl⟩
      refine br (fun hlt => ?_) fun hge => ?_
      · have hlt : k < b.length := by omega
        refine ⟨k, rfl, _, By_get hlt, brne (fun hne => ?_) fun he => ⟨b.length - (k + 1), by omega, k + 1, by rw [w64 (by omega)]; omega, by omega, by omega, rfl, ?_, rfl⟩⟩
        · rw [hun, if_neg]
          · exact ⟨rfl, hle⟩
          · rintro ⟨_, ha⟩
            apply hne
            have hm : b[k] ∈ b.drop (2 + G) := by
              rw [List.mem_drop_iff_getElem]
              exact ⟨k - (2 + G), by omega, by congr 1; omega⟩
            have := List.all_eq_true.1 ha _ hm
            rw [beq_iff_eq] at this
            rw [this]; rfl
        · rw [List.take_succ_eq_append_getElem hlt, List.drop_append_of_le_length (by simp; omega), List.all_append, hz]
          have : b[k] = 0 := UInt8.toNat_inj.1 (by simpa using he)
          simp [this]
      · rw [List.take_of_length_le (by omega)] at hz
        rw [hun, if_pos ⟨by omega, hz⟩]
        refine ⟨2, 2 + G, rfl, by rw [w64 (by omega)]; omega, by omega, by omega, ?_⟩
        have ho : Own st st2 .exact := Own.exact hle
        rw [By_take, By_drop]
        refine ⟨ho.has (by simp; omega), fun c' st' ha => ⟨c', ?_, ho.app ha⟩⟩
        rw [List.nil_append]
  · have h1 := of_decide_eq_true h
    exact h7 _ _ ⟨fun _ => by rw [show unpadO b most = none by unfold unpadO; rw [if_neg (by omega)]]; exact ⟨rfl, .refl _⟩, fun h => (by cases h)⟩
theorem put_getL (l : List UInt8) : putL (getL l) l.length = l := by
  induction l with
  | nil => rfl
  | cons x r ih =>
    have hx := x.toNat_lt
    simp only [List.length_cons, getL, putL]
    rw [show (x.toNat + 256 * getL r) / 256 = getL r by omega, ih]
    congr 1
    apply UInt8.toNat_inj.1
    simp
theorem get_putL (n k : Nat) (h : n < 256 ^ k) : getL (putL n k) = n := by
  induction k generalizing n with
  | zero => simp at h; subst h; rfl
  | succ k ih =>
    simp only [putL, getL]
    rw [ih (n / 256) (by rw [Nat.pow_succ] at h; exact Nat.div_lt_of_lt_mul (by omega))]
    simp; omega
theorem ROpen_spec (key b : List UInt8) (c : Cap) (hk : key.length = 32) (hb : b.length < 2 ^ 31) (st : St) :
    RCall Tryz.prog F_ref1_Open [.agg (By key), .lst 1 (By b) c] st fun r st' => OpenR st r st' (openL key b) := by
  refine w_ref1_Open ?_
  rw [By_length]
  intro st3 h3
  have k3 : st3.cells st.next = some (By key) := by rw [h3]; exact cells_new _ _
  have l3 : st.le st3 := by rw [h3]; exact (St.le.refl st).new _
  have hk3 := St.lt_of_cells k3
  refine br (fun h => ?_) fun h => ?_
  · rw [show openL key b = none by unfold openL; simp only; rw [if_neg (by omega)]]; exact ⟨rfl, l3⟩
  have hb22 : 22 ≤ b.length := by omega
  have hop : openL key b = (match unpadO ((xorL key (b.take 12) 0 (b.drop 12)).take ((xorL key (b.take 12) 0 (b.drop 12)).length - 8)) ((b.length : Int) - 22) with
    | some q => if (xorL key (b.take 12) 0 (b.drop 12)).drop ((xorL key (b.take 12) 0 (b.drop 12)).length - 8) = putL (sumL basis (b.take 12 ++ (xorL key (b.take 12) 0 (b.drop 12)).take ((xorL key (b.take 12) 0 (b.drop 12)).length - 8))) 8 then some (q, getL ((b.take 12).take 4), getL ((b.take 12).drop 4)) else none
    | none => none) := by unfold openL; simp only; rw [if_pos hb22]
  rw [hop]
  have hH : (b.take 12).length = 12 := by simp; omega
  have hxl : (xorL key (b.take 12) 0 (b.drop 12)).length = b.length - 12 := by simp
  have hf12 : fldV (By (b.take 12)) 0 12 true = some (.agg (By (b.take 12))) := by
    unfold fldV; rw [if_pos (by simp; omega), By_drop, By_take, List.drop_zero, List.take_of_length_le (by omega)]; rfl
  intro st4 h4
  refine ⟨12, rfl, by omega, _, List.replicate 12 (V.int .u8 0), rfl, by rw [h4]; exact cells_new _ _, by simp; omega, fun st8 h8 => ?_⟩
  rw [By_take, By_length, hH, show min 12 12 = 12 from rfl, flat_By_take, List.take_of_length_le (show (b.take 12).length ≤ 12 by omega), repl_all' (by rw [By_length, hH]; rfl)] at h8
  have k8 : st8.cells st.next = some (By key) := by rw [h8]; exact cells_set' (by rw [h4]; exact cells_new' k3) (by omega)
  have d8 : st8.cells st3.next = some (By (b.take 12)) := by rw [h8]; exact cells_set (cs := List.replicate 12 (V.int .u8 0)) (by rw [h4]; exact cells_new _ _)
  have l8 : st.le st8 := by rw [h8, h4]; exact (l3.new _).set (by omega) _
  refine ⟨_, d8, fun st10 h10 => ?_⟩
  have k10 : st10.cells st.next = some (By key) := by rw [h10]; exact cells_kill k8 (by omega)
  have l10 : st.le st10 := by rw [h10]; exact (l8.kill (by omega)).newT
  refine ⟨_, ldvg k10 (by rw [By_length]; exact hk), _, hf12, 12, rfl, by omega, ?_⟩
  rw [By_drop]
  refine (RXor_spec key (b.take 12) (b.drop 12) 0 _ hk hH (by intro h; have := congrArg List.length h; simp at this; omega) (by simp; omega) (by simp; omega) st10).mono ?_
  rintro _ st15 ⟨c1, rfl, ho⟩
  generalize hX : xorL key (b.take 12) 0 (b.drop 12) = x at hxl
  generalize hHe : b.take 12 = H at hH hf12
  refine ⟨_, _, _, rfl, fun h => (by cases h), fun _ => ⟨x.length - 8, by rw [By_length, w64 (by omega)]; omega, by rw [By_length]; omega, ?_⟩⟩
  rw [w64 (n := (b.length : Int) - 22) (by omega), By_take]
  refine (RUnpad_spec (x.take (x.length - 8)) _ ((b.length : Int) - 22) (by simp; omega) st15).mono ?_
  intro r23 st24 hr
  cases hu : unpadO (x.take (x.length - 8)) ((b.length : Int) - 22) with
  | none =>
    rw [hu] at hr
    obtain ⟨rfl, hle⟩ := hr
    refine ⟨_, _, _, rfl, fun K hK => ⟨fun h => (by cases h), fun _ => hK _ _ ⟨fun _ => ⟨rfl, l10.trans (ho.le.trans hle)⟩, fun h => (by cases h)⟩⟩⟩
  | some q =>
    rw [hu] at hr
    obtain ⟨c2, rfl, ho2⟩ := hr
    simp only
    refine ⟨_, _, _, rfl, fun K hK => ⟨fun _ => ⟨x.length - 8, by rw [By_length, w64 (by omega)]; omega, by rw [By_length]; omega, by rw [By_length]; omega, ?_⟩, fun h => (by cases h)⟩⟩
    rw [By_take, List.take_of_length_le (show H.length ≤ 12 by omega), By_drop]
    have hd8 : (x.drop (x.length - 8)).length = 8 := by simp; omega
    refine (RGet_spec (x.drop (x.length - 8)) _ (by omega) st24).mono ?_
    rintro _ st25 ⟨rfl, hle25⟩
    have hoe : Own st25 st25 .exact := Own.exact (.refl _)
    refine ⟨_, rfl, hoe.has (by simp; omega), fun c3 st28 ha => ?_⟩
    have ho28 := hoe.app ha
    refine ⟨ho28.has (by simp; omega), fun c4 st30 hb => ?_⟩
    have ho30 := ho28.app hb
    rw [List.nil_append, ← By_append]
    refine (RSum_spec _ _ (by simp; omega) st30).mono ?_
    rintro _ st34 ⟨rfl, hle34⟩
    have hsl : st24.le st34 := hle25.trans (ho30.le.trans hle34)
    have ho34 : Own st st34 c2 := Own.trans (l10.trans ho.le) (ho2.step hsl)
    have hiff : (getL (x.drop (x.length - 8)) = sumL basis (H ++ x.take (x.length - 8))) ↔ x.drop (x.length - 8) = putL (sumL basis (H ++ x.take (x.length - 8))) 8 := by
      constructor
      · intro h; rw [← h]; have := put_getL (x.drop (x.length - 8)); rw [hd8] at this; exact this.symm
      · intro h; rw [h, get_putL _ 8 (sumL_lt _ (by decide))]
    refine ⟨_, rfl, hK _ _ ⟨fun hne => ?_, fun heq => ?_⟩⟩
    · rw [if_neg]
      · exact ⟨rfl, ho34.le⟩
      · intro h
        have := hiff.2 h
        rw [this] at hne
        simp at hne
    · have heq : getL (x.drop (x.length - 8)) = sumL basis (H ++ x.take (x.length - 8)) := by
        simp only [bne_eq_false_iff_eq] at heq
        exact Int.ofNat.inj heq
      rw [if_pos (hiff.1 heq)]
      refine ⟨by rw [By_length]; omega, 4, rfl, by omega, by rw [By_length]; omega, 4, rfl, by omega, ?_⟩
      rw [By_take, By_take, List.take_of_length_le (show H.length ≤ 12 by omega), By_drop]
      refine (RGet_spec (H.take 4) _ (by simp; omega) st34).mono ?_
      rintro _ st42 ⟨rfl, hle42⟩
      refine ⟨_, rfl, ?_⟩
      refine (RGet_spec (H.drop 4) _ (by simp; omega) st42).mono ?_
      rintro _ st45 ⟨rfl, hle45⟩
      have hg : getL (H.take 4) < 2 ^ 32 := by
        have := getL_lt (H.take 4)
        rw [List.length_take, Nat.min_eq_left (by omega)] at this
        exact this
      refine ⟨_, rfl, c2, ?_, ho34.step (hle42.trans hle45)⟩
      rw [wu32 (by omega)]
end Go.Proofs.YtffenelcgjdbiaaGreatDoor
namespace Go.Proofs.YtffenelcgjdbiaaGreatDoor
open Go Go.Sim
set_option maxRecDepth 100000
theorem and_i64 (a b : Nat) (ha : a < 2 ^ 63) (hb : b < 2 ^ 63) : iand .i64 (a : Int) (b : Int) = ((a &&& b : Nat) : Int) := by
  have h1 : a &&& b < 2 ^ 63 := Nat.and_lt_two_pow _ hb
  unfold iand
  rw [show IntKind.i64.bits = 64 from rfl, BitVec.toNat_and, BitVec.toNat_ofInt, BitVec.toNat_ofInt]
  rw [show ((a : Int) % ((2 ^ 64 : Nat) : Int)).toNat = a by omega, show ((b : Int) % ((2 ^ 64 : Nat) : Int)).toNat = b by omega]
  exact w64 (by omega)
theorem xor_i64 (a b : Nat) (ha : a < 2 ^ 63) (hb : b < 2 ^ 63) : ixor .i64 (a : Int) (b : Int) = ((a ^^^ b : Nat) : Int) := by
  have h1 : a ^^^ b < 2 ^ 63 := Nat.xor_lt_two_pow ha hb
  unfold ixor
  rw [show IntKind.i64.bits = 64 from rfl, BitVec.toNat_xor, BitVec.toNat_ofInt, BitVec.toNat_ofInt]
  rw [show ((a : Int) % ((2 ^ 64 : Nat) : Int)).toNat = a by omega, show ((b : Int) % ((2 ^ 64 : Nat) : Int)).toNat = b by omega]
  exact w64 (by omega)
theorem pow16 {d : Nat} (h : d ≤ 16) : 1 ≤ 2 ^ d ∧ 2 ^ d ≤ 65536 := ⟨Nat.one_le_two_pow, Nat.pow_le_pow_right (n := 2) (by omega) h⟩
theorem Leaves_spec {d : Nat} (hd : d ≤ 16) : Gives Tryz.prog F_draw_Leaves [.int .i64 (2 ^ d : Nat)] (.bool true) := by
  intro st
  obtain ⟨h1, h2⟩ := pow16 hd
  refine w_draw_Leaves ?_
  intro K hK
  refine br (fun _ => ?_) fun h => by omega
  refine hK _ _ fun K6 h6 => ⟨fun _ => ?_, fun h => ?_⟩
  · rw [w64 (by omega), show ((2 ^ d : Nat) : Int) - 1 = ((2 ^ d - 1 : Nat) : Int) by omega, and_i64 _ _ (by omega) (by omega), Nat.and_two_pow_sub_one_eq_mod, Nat.mod_self]
    exact h6 _ _ ⟨rfl, .refl _⟩
  · have := of_decide_eq_false h; omega
theorem RLeaves_spec {d : Nat} (hd : d ≤ 16) : Gives Tryz.prog F_ref1_Leaves [.int .i64 (2 ^ d : Nat)] (.bool true) := by
  intro st
  obtain ⟨h1, h2⟩ := pow16 hd
  refine w_ref1_Leaves ?_
  intro K hK
  refine br (fun _ => ?_) fun h => by omega
  refine hK _ _ fun K6 h6 => ⟨fun _ => ?_, fun h => ?_⟩
  · rw [w64 (by omega), show ((2 ^ d : Nat) : Int) - 1 = ((2 ^ d - 1 : Nat) : Int) by omega, and_i64 _ _ (by omega) (by omega), Nat.and_two_pow_sub_one_eq_mod, Nat.mod_self]
    exact h6 _ _ ⟨rfl, .refl _⟩
  · have := of_decide_eq_false h; omega
def tzI (d : Nat) : Nat := tab64.findIdx (· == d)
theorem tz_all : ∀ d : Fin 17, Int.fdiv (IntKind.u64.wrap ((iand .u64 ((2 ^ d.val : Nat) : Int) (IntKind.u64.wrap (0 - ((2 ^ d.val : Nat) : Int)))) * 285870213051353865)) (2 ^ 58) = (tzI d.val : Int) ∧ tzI d.val < 64 ∧ tab64[tzI d.val]? = some d.val := by decide +kernel
theorem tab_get {k n : Nat} (h : tab64[k]? = some n) : fldV (tabV.drop (k * 1)) 0 1 false = some (.int .u8 (n : Int)) := by
  have hlt := (List.getElem?_eq_some_iff.1 h).1
  have hv : tabV[k]? = some (.int .u8 (n : Int)) := by rw [tabV, List.getElem?_map, h]; rfl
  unfold fldV aggOr
  have hl : tabV.length = tab64.length := by rw [tabV, List.length_map]
  rw [Nat.mul_one, if_pos (by rw [List.length_drop, hl]; omega)]
  simp [List.getElem?_take, hv]
theorem TZ_spec {d : Nat} (hd : d ≤ 16) : Gives Tryz.prog F_math_bits_TrailingZeros [.int .u64 (2 ^ d : Nat)] (.int .i64 d) := by
  intro st
  obtain ⟨h1, h2⟩ := pow16 hd
  refine w_math_bits_TrailingZeros ?_
  refine w_math_bits_TrailingZeros64 ?_
  obtain ⟨e1, e2, e3⟩ := tz_all ⟨d, by omega⟩
  refine breq (fun h => by omega) fun _ => ⟨tzI d, e1, e2, _, tab_get e3, _, rfl, ?_, .refl _⟩
  rw [w64 (by show _ ∧ _; constructor <;> (show _ ≤ _) <;> simp <;> omega)]
theorem Depth_spec {d : Nat} (hd : d ≤ 16) : Gives Tryz.prog F_path_Depth [.int .i64 (2 ^ d : Nat)] (.int .i64 d) := by
  intro st
  obtain ⟨h1, h2⟩ := pow16 hd
  refine w_path_Depth ?_
  refine (Leaves_spec hd st).mono ?_
  rintro _ st1 ⟨rfl, l1⟩
  refine ⟨_, rfl, fun h => (by cases h), fun _ => ?_⟩
  rw [wu64 (by omega)]
  refine (TZ_spec hd st1).mono ?_
  rintro _ st2 ⟨rfl, l2⟩
  exact ⟨_, rfl, rfl, l1.trans l2⟩
theorem Buckets_spec {d : Nat} (hd : d ≤ 16) : Gives Tryz.prog F_path_Buckets [.int .i64 (2 ^ d : Nat)] (.int .i64 (2 * 2 ^ d - 1 : Nat)) := by
  intro st
  obtain ⟨h1, h2⟩ := pow16 hd
  refine w_path_Buckets ?_
  refine (Leaves_spec hd st).mono ?_
  rintro _ st1 ⟨rfl, l1⟩
  refine ⟨_, rfl, fun h => (by cases h), fun _ => ⟨?_, l1⟩⟩
  rw [w64 (n := 2 * ((2 ^ d : Nat) : Int)) (by omega), w64 (by omega)]
  congr 2
  omega
theorem RBuckets_spec {d : Nat} (hd : d ≤ 16) : Gives Tryz.prog F_ref6_Buckets [.int .i64 (2 ^ d : Nat)] (.int .i64 (2 * 2 ^ d - 1 : Nat)) := by
  intro st
  obtain ⟨h1, h2⟩ := pow16 hd
  refine w_ref6_Buckets ?_
  refine (RLeaves_spec hd st).mono ?_
  rintro _ st1 ⟨rfl, l1⟩
  refine ⟨_, rfl, fun h => (by cases h), fun _ => ⟨?_, l1⟩⟩
  rw [w64 (n := 2 * ((2 ^ d : Nat) : Int)) (by omega), w64 (by omega)]
  congr 2
  omega
theorem has_spec {d : Nat} (hd : d ≤ 16) (leaf : Int) : Gives Tryz.prog F_path_has [.int .i64 (2 ^ d : Nat), .int .i64 leaf] (.bool (decide (0 ≤ leaf ∧ leaf < (2 ^ d : Nat)))) := by
  intro st
  refine w_path_has ?_
  refine (Leaves_spec hd st).mono ?_
  rintro _ st1 ⟨rfl, l1⟩
  refine ⟨_, rfl, fun K hK => ⟨fun _ => hK _ _ fun K10 h10 => ?_, fun h => (by cases h)⟩⟩
  refine br (fun h => h10 _ _ ⟨?_, l1⟩) fun h => h10 _ _ ⟨?_, l1⟩
  · congr 2; simp [h]
  · congr 2; simp; omega
def atL (d leaf level : Nat) : Nat := 2 ^ level - 1 + leaf / 2 ^ (d - level)
theorem atL_lt {d leaf level : Nat} (hl : leaf < 2 ^ d) (hv : level ≤ d) : atL d leaf level < 2 * 2 ^ d - 1 := by
  have h1 : leaf / 2 ^ (d - level) < 2 ^ level := by
    rw [Nat.div_lt_iff_lt_mul (Nat.pow_pos (by decide)), ← Nat.pow_add, show level + (d - level) = d by omega]; exact hl
  have h2 : 2 ^ level ≤ 2 ^ d := Nat.pow_le_pow_right (by decide) hv
  have h3 : 1 ≤ 2 ^ level := Nat.one_le_two_pow
  unfold atL; omega
theorem At_spec {d leaf : Nat} (hd : d ≤ 16) (hl : leaf < 2 ^ d) (level : Nat) (hv : level ≤ 64) :
    Gives Tryz.prog F_path_At [.int .i64 (2 ^ d : Nat), .int .i64 leaf, .int .i64 level] (.tup [.int .i64 (if level ≤ d then atL d leaf level else 0 : Nat), .bool (decide (level ≤ d))]) := by
  intro st
  obtain ⟨h1, h2⟩ := pow16 hd
  refine w_path_At ?_
  refine (Depth_spec hd st).mono ?_
  rintro _ st1 ⟨rfl, l1⟩
  refine ⟨_, rfl, ?_⟩
  refine (has_spec hd leaf st1).mono ?_
  rintro _ st2 ⟨rfl, l2⟩
  have hh : decide (0 ≤ (leaf : Int) ∧ (leaf : Int) < (2 ^ d : Nat)) = true := by simp; exact_mod_cast hl
  rw [hh]
  refine ⟨_, rfl, fun K hK => ⟨fun _ => ?_, fun h => (by cases h)⟩⟩
  have e0 : decide ((level : Int) < 0) = false := by simp
  rw [e0]
  refine hK _ _ fun K14 h14 => ⟨fun _ => h14 _ _ ⟨fun h => ?_, fun h => ?_⟩, fun h => (by cases h)⟩
  · have h := of_decide_eq_true h
    have : ¬ level ≤ d := by omega
    rw [if_neg this, decide_eq_false this]
    exact ⟨rfl, l1.trans l2⟩
  · have h := of_decide_eq_false h
    have hle : level ≤ d := by omega
    have hb := atL_lt hl hle
    refine ⟨by omega, by rw [w64 (by omega)]; omega, ?_, l1.trans l2⟩
    have hp := pow16 (show level ≤ 16 by omega)
    rw [if_pos hle, decide_eq_true hle, Int.toNat_natCast, Nat.min_eq_left (by omega), w64 (n := (d : Int) - level) (by omega), show ((d : Int) - level).toNat = d - level by omega, Nat.min_eq_left (by omega), fdiv_pow]
    have e1 : (1 : Int) * 2 ^ level = ((2 ^ level : Nat) : Int) := by simp
    have hq : leaf / 2 ^ (d - level) ≤ leaf := Nat.div_le_self _ _
    have hat : atL d leaf level = 2 ^ level - 1 + leaf / 2 ^ (d - level) := rfl
    generalize leaf / 2 ^ (d - level) = q at hq hat ⊢
    rw [e1, w64 (n := ((2 ^ level : Nat) : Int)) (by omega), w64 (n := ((2 ^ level : Nat) : Int) - 1) (by omega), w64 (by omega)]
    congr 4
    omega
def Is (l : List Nat) : List V := l.map fun (n : Nat) => V.int .i64 (n : Int)
@[simp] theorem Is_length (l : List Nat) : (Is l).length = l.length := by simp [Is]
theorem Is_append (l m : List Nat) : Is (l ++ m) = Is l ++ Is m := by simp [Is]
theorem Is_get {l : List Nat} {k : Nat} (h : k < l.length) : (Is l)[k]? = some (.int .i64 (l[k] : Int)) := by simp [Is, h]
def onL (d leaf : Nat) : List Nat := (List.range (d + 1)).map fun l => atL d leaf l
@[simp] theorem onL_len (d leaf : Nat) : (onL d leaf).length = d + 1 := by simp [onL]
theorem range_step (f : Nat → Nat) (k : Nat) : (List.range (k + 1)).map f = (List.range k).map f ++ [f k] := by rw [List.range_succ]; simp
theorem On_spec {d leaf : Nat} (hd : d ≤ 16) (hl : leaf < 2 ^ d) : Makes Tryz.prog F_path_On [.int .i64 (2 ^ d : Nat), .int .i64 leaf] 1 (Is (onL d leaf)) := by
  intro st
  refine w_path_On ?_
  refine ⟨fun n out c level st' => ∃ k : Nat, level = k ∧ k ≤ d + 1 ∧ n = d + 1 - k ∧ out = Is ((List.range k).map fun l => atL d leaf l) ∧ Own st st' c, ⟨d + 1, 0, rfl, by omega, rfl, rfl, Own.nil (.refl st)⟩, ?_⟩
  rintro _ _ c _ st1 ⟨k, rfl, hk, rfl, rfl, ho⟩
  refine (At_spec hd hl k (by omega) st1).mono ?_
  rintro _ st2 ⟨rfl, l2⟩
  have ho2 := ho.step l2
  refine ⟨_, _, rfl, fun h => ?_, fun h => ?_⟩
  · have : k = d + 1 := by
      have : ¬ k ≤ d := by simpa using h
      omega
    subst this
    exact ⟨c, rfl, ho2⟩
  · have hkd : k ≤ d := by simpa using h
    rw [if_pos hkd]
    refine ⟨ho2.has (by simp; omega), fun c' st3 ha => ⟨d + 1 - (k + 1), by omega, k + 1, by rw [w64 (by omega)]; omega, by omega, rfl, ?_, ho2.app ha⟩⟩
    rw [range_step, Is_append]; rfl
def bl (x : Nat) : Nat := if x = 0 then 0 else x.log2 + 1
theorem bl_le {x k : Nat} : bl x ≤ k ↔ x < 2 ^ k := by
  unfold bl
  split
  · rename_i h; subst h; simp [Nat.pow_pos]
  · rename_i h
    have := Nat.log2_lt (n := x) (k := k) h
    omega
theorem bl_256 {x : Nat} (h : 256 ≤ x) : bl x = bl (x / 256) + 8 := by
  have h1 : x / 256 < 2 ^ bl (x / 256) := bl_le.1 (Nat.le_refl _)
  have h2 : x < 2 ^ bl x := bl_le.1 (Nat.le_refl _)
  have h8 : 8 ≤ bl x := by
    rcases Nat.lt_or_ge (bl x) 8 with hh | hh
    · have : x < 2 ^ 8 := bl_le.1 (by omega)
      omega
    · exact hh
  refine Nat.le_antisymm (bl_le.2 ?_) ?_
  · rw [Nat.pow_add]; rw [Nat.div_lt_iff_lt_mul (by decide)] at h1; exact h1
  · have : x / 256 < 2 ^ (bl x - 8) := by
      rw [Nat.div_lt_iff_lt_mul (by decide), show (256 : Nat) = 2 ^ 8 from rfl, ← Nat.pow_add, show bl x - 8 + 8 = bl x by omega]; exact h2
    have := bl_le.2 this
    omega
end Go.Proofs.YtffenelcgjdbiaaGreatDoor
namespace Go.Proofs.YtffenelcgjdbiaaGreatDoor
open Go Go.Sim
set_option maxRecDepth 100000
def len8 : List UInt8 := [0, 1, 2, 2, 3, 3, 3, 3, 4, 4, 4, 4, 4, 4, 4, 4, 5, 5, 5, 5, 5, 5, 5, 5, 5, 5, 5, 5, 5, 5, 5, 5, 6, 6, 6, 6, 6, 6, 6, 6, 6, 6, 6, 6, 6, 6, 6, 6, 6, 6, 6, 6, 6, 6, 6, 6, 6, 6, 6, 6, 6, 6, 6, 6, 7, 7, 7, 7, 7, 7, 7, 7, 7, 7, 7, 7, 7, 7, 7, 7, 7, 7, 7, 7, 7, 7, 7, 7, 7, 7, 7, 7, 7, 7, 7, 7, 7, 7, 7, 7, 7, 7, 7, 7, 7, 7, 7, 7, 7, 7, 7, 7, 7, 7, 7, 7, 7, 7, 7, 7, 7, 7, 7, 7, 7, 7, 7, 7, 8, 8, 8, 8, 8, 8, 8, 8, 8, 8, 8, 8, 8, 8, 8, 8, 8, 8, 8, 8, 8, 8, 8, 8, 8, 8, 8, 8, 8, 8, 8, 8, 8, 8, 8, 8, 8, 8, 8, 8, 8, 8, 8, 8, 8, 8, 8, 8, 8, 8, 8, 8, 8, 8, 8, 8, 8, 8, 8, 8, 8, 8, 8, 8, 8, 8, 8, 8, 8, 8, 8, 8, 8, 8, 8, 8, 8, 8, 8, 8, 8, 8, 8, 8, 8, 8, 8, 8, 8, 8, 8, 8, 8, 8, 8, 8, 8, 8, 8, 8, 8, 8, 8, 8, 8, 8, 8, 8, 8, 8, 8, 8, 8, 8, 8, 8, 8, 8, 8, 8, 8, 8, 8, 8, 8, 8, 8, 8]
theorem len8_all : ∀ k : Fin 256, len8[k.val]? = some (UInt8.ofNat (bl k.val)) := by decide +kernel
theorem bl_small {k : Nat} (h : k < 256) : bl k ≤ 8 := bl_le.2 (by omega)
theorem Len_spec (x : Nat) (hx : x < 65536) : Gives Tryz.prog F_math_bits_Len [.int .u64 x] (.int .i64 (bl x)) := by
  intro st
  refine w_math_bits_Len ?_
  refine w_math_bits_Len64 ?_
  intro K hK
  refine br (fun h => by omega) fun _ => ?_
  refine hK _ _ _ fun K8 h8 => ?_
  refine br (fun h => by omega) fun _ => ?_
  refine h8 _ _ _ fun K12 h12 => ?_
  have fin : ∀ (y n : Nat), y < 256 → n ≤ 8 → bl x = n + bl y → K12 (y : Int) (n : Int) st := by
    intro y n hy hn he
    refine h12 _ _ _ ⟨y, by rw [wrap_u8 (by omega) (by omega)], _, len8_all ⟨y, hy⟩, _, rfl, ?_, .refl _⟩
    have hb := bl_small hy
    have e : ((UInt8.ofNat (bl y)).toNat : Int) = (bl y : Int) := by simp; omega
    rw [e, w64 (n := (bl y : Int)) (by omega), w64 (by omega), he]
    congr 2
  refine br (fun h => ?_) fun h => ?_
  · rw [fdiv_pow, show IntKind.i64.wrap (0 + 8) = ((8 : Nat) : Int) from rfl]
    exact fin (x / 2 ^ 8) 8 (by omega) (by omega) (by rw [bl_256 (by omega), show (2 : Nat) ^ 8 = 256 from rfl]; omega)
  · exact fin x 0 (by omega) (by omega) (by omega)
theorem Meet_spec {d a b : Nat} (hd : d ≤ 16) (ha : a < 2 ^ d) (hb : b < 2 ^ d) : Gives Tryz.prog F_path_Meet [.int .i64 (2 ^ d : Nat), .int .i64 a, .int .i64 b] (.int .i64 ((d : Int) - bl (a ^^^ b))) := by
  intro st
  obtain ⟨h1, h2⟩ := pow16 hd
  refine w_path_Meet ?_
  have hh : ∀ q : Nat, q < 2 ^ d → decide (0 ≤ (q : Int) ∧ (q : Int) < (2 ^ d : Nat)) = true := fun q hq => by simp; exact_mod_cast hq
  refine (has_spec hd a st).mono ?_
  rintro _ st1 ⟨rfl, l1⟩
  rw [hh a ha]
  refine ⟨_, rfl, fun K hK => ⟨fun _ => ?_, fun h => (by cases h)⟩⟩
  refine (has_spec hd b st1).mono ?_
  rintro _ st2 ⟨rfl, l2⟩
  rw [hh b hb]
  refine ⟨_, rfl, hK _ _ ⟨fun h => (by cases h), fun _ => ?_⟩⟩
  refine (Depth_spec hd st2).mono ?_
  rintro _ st3 ⟨rfl, l3⟩
  refine ⟨_, rfl, ?_⟩
  have hx : a ^^^ b < 2 ^ d := Nat.xor_lt_two_pow ha hb
  have hx2 : a ^^^ b < 2 ^ 16 := Nat.lt_of_lt_of_le hx (Nat.pow_le_pow_right (by decide) hd)
  rw [xor_i64 a b (by omega) (by omega), wu64 (by omega)]
  refine (Len_spec _ (by omega) st3).mono ?_
  rintro _ st4 ⟨rfl, l4⟩
  refine ⟨_, rfl, ?_, ((l1.trans l2).trans l3).trans l4⟩
  have : bl (a ^^^ b) ≤ d := bl_le.2 hx
  rw [w64 (by omega)]
theorem Grow_spec (n : Nat) (hp : 0 < n) (hn : n ≤ 2 ^ 40) (st : St) : RCall Tryz.prog F_slices_Grow_byte_byte [.lst 1 [] .nil, .int .i64 n] st fun r st' => ∃ c, r = .ret (.lst 1 [] c) ∧ Own st st' c := by
  refine RCall.frz (sz := 0) (id := 0) (off := 0) (len := 0) (cap := 0) false ?_
  refine w_slices_Grow_byte_byteN ?_
  have e : IntKind.i64.wrap ((n : Int) - (IntKind.i64.wrap (0 - (([] : List V).length : Int)))) = (n : Int) := by
    rw [show IntKind.i64.wrap (0 - (([] : List V).length : Int)) = 0 from rfl, w64 (by omega)]; omega
  rw [e]
  refine br (fun h => by omega) fun _ K hK => ?_
  refine br (fun _ => ?_) fun h => by omega
  have hm : appmEl st 1 (.int .u8 0) true (.int .i64 (n : Int)) = some (By (List.replicate n 0)) := by
    simp only [appmEl]
    rw [if_pos (by omega), Int.toNat_natCast, By_rep]
  refine ⟨0, rfl, by simp, rfl, _, hm, by intro h; have := congrArg List.length h; simp at this; omega, by simp; omega, fun k st5 hk h5 => ⟨0, rfl, by omega, hK _ _ ?_⟩⟩
  have hk' : n ≤ k := by simpa using hk
  have ho : flat (([] : List V).take 0) ++ flat (By (List.replicate n 0)) ++ spare (.int .u8 0) ((([] : List V).take 0).length + (By (List.replicate n 0)).length) k = By ([] ++ List.replicate k 0) := by
    rw [By_flat, spare_u8]
    simp only [List.take_nil, List.length_nil, By_length, List.length_replicate, Nat.zero_add, List.nil_append]
    rw [show flat ([] : List V) = By [] from rfl, ← By_append, ← By_append, List.nil_append, List.replicate_append_replicate, show n + (k - n) = k by omega]
  rw [ho] at h5
  have c5 : st5.cells st.next = some (By ([] ++ List.replicate k 0)) := by rw [h5]; exact cells_new _ _
  have hf := frz_By (l := []) (sp := List.replicate k 0) (cap := k) (by simp)
  refine ⟨_, _, c5, hf, _, rfl, ?_⟩
  refine Own.frz ?_ (Nat.le_refl _)
  rw [h5]; exact (St.le.refl st).new _
theorem flen (ps : List (List UInt8 × Cap)) (k : Nat) : ((ps.take k).map (·.1)).flatten.length ≤ (ps.map (·.1)).flatten.length := by
  have : ps.map (·.1) = (ps.take k).map (·.1) ++ (ps.drop k).map (·.1) := by rw [← List.map_append, List.take_append_drop]
  rw [this, List.flatten_append, List.length_append]; omega
theorem fstep (ps : List (List UInt8 × Cap)) {k : Nat} (h : k < ps.length) : ((ps.take (k + 1)).map (·.1)).flatten = ((ps.take k).map (·.1)).flatten ++ ps[k].1 := by
  rw [List.take_succ_eq_append_getElem h]
  simp only [List.map_append, List.map_cons, List.map_nil, List.flatten_append, List.flatten_cons, List.flatten_nil, List.append_nil]
theorem Concat_spec (ps : List (List UInt8 × Cap)) (c : Cap) (hl : ps.length < 2 ^ 40) (hp : 0 < (ps.map (·.1)).flatten.length) (hn : (ps.map (·.1)).flatten.length ≤ 2 ^ 40) (st : St) :
    RCall Tryz.prog F_slices_Concat_byte_byte [.lst 1 (ps.map fun p => V.lst 1 (By p.1) p.2) c] st fun r st' => ∃ c', r = .ret (.lst 1 (By (ps.map (·.1)).flatten) c') ∧ Own st st' c' := by
  refine w_slices_Concat_byte_byte ?_
  rw [List.length_map]
  refine ⟨fun m size i st' => ∃ k : Nat, i = k ∧ k ≤ ps.length ∧ m = ps.length - k ∧ size = (((ps.take k).map (·.1)).flatten.length : Int) ∧ st' = st, ⟨ps.length, 0, rfl, by omega, rfl, by simp, rfl⟩, ?_⟩
  rintro _ _ _ st1 ⟨k, rfl, hk, rfl, rfl, rfl⟩
  refine br (fun hlt => ?_) fun hge => ?_
  · have hk' : k < ps.length := by omega
    refine ⟨k, rfl, By ps[k].1, ps[k].2, by simp [hk'], ?_⟩
    have h1 := flen ps (k + 1)
    have h2 := fstep ps hk'
    rw [h2, List.length_append] at h1
    rw [By_length, w64 (by omega)]
    refine br (fun h => by omega) fun _ => ⟨ps.length - (k + 1), by omega, k + 1, by rw [w64 (by omega)]; omega, by omega, rfl, by rw [h2, List.length_append]; omega, rfl⟩
  rw [List.take_of_length_le (by omega)]
  refine (Grow_spec _ hp hn st1).mono ?_
  rintro _ st2 ⟨c2, rfl, ho⟩
  refine ⟨_, _, rfl, ?_⟩
  refine ⟨fun m out c i st' => ∃ k : Nat, i = k ∧ k ≤ ps.length ∧ m = ps.length - k ∧ out = By ((ps.take k).map (·.1)).flatten ∧ Own st1 st' c, ⟨ps.length, 0, rfl, by omega, rfl, rfl, ho⟩, ?_⟩
  rintro _ _ c3 _ st3 ⟨k, rfl, hk, rfl, rfl, ho3⟩
  refine br (fun hlt => ?_) fun hge => ?_
  · have hk' : k < ps.length := by omega
    have h1 := flen ps (k + 1)
    have h2 := fstep ps hk'
    rw [h2, List.length_append] at h1
    refine ⟨k, rfl, By ps[k].1, ps[k].2, by simp [hk'], ho3.has (by simp only [By_length]; omega), fun c4 st4 ha => ⟨ps.length - (k + 1), by omega, k + 1, by rw [w64 (by omega)]; omega, by omega, rfl, by rw [h2, By_append], ho3.app ha⟩⟩
  · rw [List.take_of_length_le (by omega)]
    exact ⟨c3, rfl, ho3⟩
end Go.Proofs.YtffenelcgjdbiaaGreatDoor
namespace Go.Sim
open Go
def same (a b : St) (i : Nat) : Prop := b.cells i = a.cells i ∧ b.maps i = a.maps i ∧ b.tok i = a.tok i
theorem same.refl (a : St) (i : Nat) : same a a i := ⟨rfl, rfl, rfl⟩
structure Asn where
  holds : St → (Nat → Prop) → Prop
  frame : ∀ {a b : St} {I : Nat → Prop}, holds a I → a.next ≤ b.next → (∀ i, I i → same a b i) → holds b I
  bound : ∀ {a : St} {I : Nat → Prop}, holds a I → ∀ i, I i → i < a.next
theorem Asn.eq {A B : Asn} (h : ∀ st I, A.holds st I ↔ B.holds st I) : A = B := by
  cases A; cases B
  congr
  funext st I
  exact propext (h st I)
def Asn.sep (A B : Asn) : Asn where
  holds st I := ∃ I1 I2, A.holds st I1 ∧ B.holds st I2 ∧ (∀ i, I1 i → I2 i → False) ∧ I = fun i => I1 i ∨ I2 i
  frame := by
    rintro a b I ⟨I1, I2, h1, h2, hd, rfl⟩ hn hs
    exact ⟨I1, I2, A.frame h1 hn fun i hi => hs i (.inl hi), B.frame h2 hn fun i hi => hs i (.inr hi), hd, rfl⟩
  bound := by
    rintro a I ⟨I1, I2, h1, h2, hd, rfl⟩ i hi
    rcases hi with hi | hi
    · exact A.bound h1 i hi
    · exact B.bound h2 i hi
instance : Mul Asn := ⟨Asn.sep⟩
theorem sep_comm (A B : Asn) : A * B = B * A := by
  have h : ∀ (A B : Asn) st I, (A * B).holds st I → (B * A).holds st I := by
    rintro A B st I ⟨I1, I2, h1, h2, hd, rfl⟩
    exact ⟨I2, I1, h2, h1, fun i a b => hd i b a, funext fun i => propext Or.comm⟩
  exact Asn.eq fun st I => ⟨h A B st I, h B A st I⟩
theorem sep_assoc (A B C : Asn) : A * B * C = A * (B * C) := by
  refine Asn.eq fun st I => ⟨?_, ?_⟩
  · rintro ⟨I12, I3, ⟨I1, I2, h1, h2, hd, rfl⟩, h3, hd2, rfl⟩
    exact ⟨I1, _, h1, ⟨I2, I3, h2, h3, fun i a b => hd2 i (.inr a) b, rfl⟩, fun i a b => b.elim (hd i a) (hd2 i (.inl a)), funext fun i => propext or_assoc⟩
  · rintro ⟨I1, I23, h1, ⟨I2, I3, h2, h3, hd, rfl⟩, hd2, rfl⟩
    exact ⟨_, I3, ⟨I1, I2, h1, h2, fun i a b => hd2 i a (.inl b), rfl⟩, h3, fun i a b => a.elim (fun a => hd2 i a (.inr b)) (fun a => hd i a b), funext fun i => propext or_assoc.symm⟩
instance : Std.Associative (HMul.hMul : Asn → Asn → Asn) := ⟨sep_assoc⟩
instance : Std.Commutative (HMul.hMul : Asn → Asn → Asn) := ⟨sep_comm⟩
def emp : Asn where
  holds _ I := I = fun _ => False
  frame h _ _ := h
  bound := by rintro a I rfl i hi; exact hi.elim
theorem sep_emp (A : Asn) : A * emp = A := by
  refine Asn.eq fun st I => ⟨?_, fun h => ⟨I, _, h, rfl, fun i _ x => x, funext fun i => propext (by simp)⟩⟩
  rintro ⟨I1, _, h1, rfl, hd, rfl⟩
  have : (fun i => I1 i ∨ False) = I1 := funext fun i => propext (by simp)
  rw [this]; exact h1
def pand (p : Prop) (A : Asn) : Asn where
  holds st I := p ∧ A.holds st I
  frame h hn hs := ⟨h.1, A.frame h.2 hn hs⟩
  bound h := A.bound h.2
def ex {α : Type} (f : α → Asn) : Asn where
  holds st I := ∃ a, (f a).holds st I
  frame h hn hs := by obtain ⟨a, h⟩ := h; exact ⟨a, (f a).frame h hn hs⟩
  bound h := by obtain ⟨a, h⟩ := h; exact (f a).bound h
def cellA (id : Nat) (cs : List V) : Asn where
  holds st I := st.cells id = some cs ∧ I = (· = id)
  frame := by rintro a b I ⟨h, rfl⟩ hn hs; exact ⟨by rw [(hs id rfl).1, h], rfl⟩
  bound := by rintro a I ⟨h, rfl⟩ i rfl; exact St.lt_of_cells h
def mapA (id : Nat) (m : List (V × V)) : Asn where
  holds st I := st.maps id = some m ∧ I = (· = id)
  frame := by rintro a b I ⟨h, rfl⟩ hn hs; exact ⟨by rw [(hs id rfl).2.1, h], rfl⟩
  bound := by rintro a I ⟨h, rfl⟩ i rfl; exact St.lt_of_maps h
def capI : Cap → Nat → Prop
  | .tail t, i => i = t
  | _, _ => False
def capA (c : Cap) : Asn where
  holds st I := canApp st c = true ∧ I = capI c
  frame := by
    rintro a b I ⟨h, rfl⟩ hn hs
    refine ⟨?_, rfl⟩
    cases c with
    | tail t => show b.tok t = true; rw [(hs t rfl).2.2]; exact h
    | _ => exact h
  bound := by
    rintro a I ⟨h, rfl⟩ i hi
    cases c with
    | tail t => cases hi; exact St.lt_of_tok h
    | _ => exact hi.elim
structure Mov (I : Nat → Prop) (a : St) (J : Nat → Prop) (b : St) : Prop where
  leX : a.leX I b
  fp : ∀ i, J i → I i ∨ a.next ≤ i
theorem Mov.refl (I : Nat → Prop) (a : St) : Mov I a I a := ⟨.refl I a, fun _ h => .inl h⟩
theorem Mov.trans {I J K : Nat → Prop} {a b c : St} (h : Mov I a J b) (k : Mov J b K c) : Mov I a K c := by
  have hn : ∀ i, i < a.next → ¬ I i → ¬ J i := fun i hi hI hJ => by rcases h.fp i hJ with x | x; exact hI x; omega
  have hb : ∀ i, i < a.next → i < b.next := fun i hi => Nat.lt_of_lt_of_le hi h.leX.next
  refine ⟨⟨Nat.le_trans h.leX.next k.leX.next, fun i hi hI => ?_, fun i hi hI => ?_, fun i hi hI => ?_⟩, fun i hK => ?_⟩
  · rw [k.leX.cells i (hb i hi) (hn i hi hI), h.leX.cells i hi hI]
  · rw [k.leX.maps i (hb i hi) (hn i hi hI), h.leX.maps i hi hI]
  · rw [k.leX.tok i (hb i hi) (hn i hi hI), h.leX.tok i hi hI]
  · rcases k.fp i hK with x | x
    · exact h.fp i x
    · right; have := h.leX.next; omega
def Now (st : St) (I : Nat → Prop) (A : Asn) (s : St) : Prop := ∃ J, A.holds s J ∧ Mov I st J s
theorem Now.init {st : St} {I : Nat → Prop} {A : Asn} (h : A.holds st I) : Now st I A st := ⟨I, h, .refl I st⟩
theorem Now.perm {st s : St} {I : Nat → Prop} {A B : Asn} (h : Now st I A s) (e : A = B) : Now st I B s := e ▸ h
theorem Now.drop {st s : St} {I : Nat → Prop} {A B : Asn} (h : Now st I (A * B) s) : Now st I B s := by
  obtain ⟨J, ⟨I1, I2, h1, h2, hd, rfl⟩, hs⟩ := h
  exact ⟨I2, h2, hs.leX, fun i hi => hs.fp i (.inr hi)⟩
theorem Now.cells {st s : St} {I : Nat → Prop} {id : Nat} {cs : List V} {R : Asn} (h : Now st I (cellA id cs * R) s) : s.cells id = some cs := by
  obtain ⟨J, ⟨I1, I2, h1, h2, hd, rfl⟩, hs⟩ := h
  exact h1.1
theorem Now.maps {st s : St} {I : Nat → Prop} {id : Nat} {m : List (V × V)} {R : Asn} (h : Now st I (mapA id m * R) s) : s.maps id = some m := by
  obtain ⟨J, ⟨I1, I2, h1, h2, hd, rfl⟩, hs⟩ := h
  exact h1.1
theorem Now.can {st s : St} {I : Nat → Prop} {c : Cap} {R : Asn} (h : Now st I (capA c * R) s) : canApp s c = true := by
  obtain ⟨J, ⟨I1, I2, h1, h2, hd, rfl⟩, hs⟩ := h
  exact h1.1
theorem Now.step {st s s' : St} {I : Nat → Prop} {A A' R : Asn} (h : Now st I (A * R) s) (k : ∀ J, A.holds s J → ∃ J', A'.holds s' J' ∧ Mov J s J' s') : Now st I (A' * R) s' := by
  obtain ⟨J, ⟨I1, I2, h1, h2, hd, rfl⟩, hs⟩ := h
  obtain ⟨J', h1', hs'⟩ := k I1 h1
  have hb := R.bound h2
  refine ⟨_, ⟨J', I2, h1', R.frame h2 hs'.leX.next fun i hi => ⟨hs'.leX.cells i (hb i hi) fun x => hd i x hi, hs'.leX.maps i (hb i hi) fun x => hd i x hi, hs'.leX.tok i (hb i hi) fun x => hd i x hi⟩,
    fun i a b => ?_, rfl⟩, hs.trans ⟨hs'.leX.mono fun i _ x => .inl x, ?_⟩⟩
  · rcases hs'.fp i a with x | x
    · exact hd i x b
    · have := hb i b; omega
  · rintro i (x | x)
    · rcases hs'.fp i x with y | y
      · exact .inl (.inl y)
      · exact .inr y
    · exact .inl (.inr x)
theorem Now.imp {st s : St} {I : Nat → Prop} {A A' R : Asn} (h : Now st I (A * R) s) (k : ∀ J, A.holds s J → A'.holds s J) : Now st I (A' * R) s :=
  h.step fun J hJ => ⟨J, k J hJ, .refl J s⟩
theorem Now.fresh {st s s' : St} {I : Nat → Prop} {A N : Asn} (h : Now st I A s) (hl : s.le s') {J : Nat → Prop} (hN : N.holds s' J) (hJ : ∀ i, J i → s.next ≤ i) : Now st I (N * A) s' := by
  obtain ⟨I2, h2, hs⟩ := h
  have hb := A.bound h2
  refine ⟨_, ⟨J, I2, hN, A.frame h2 hl.next fun i hi => ⟨hl.cells i (hb i hi), hl.maps i (hb i hi), hl.tok i (hb i hi)⟩, fun i a b => ?_, rfl⟩, hs.trans ⟨hl.leX _, ?_⟩⟩
  · have := hb i b; have := hJ i a; omega
  · rintro i (x | x)
    · exact .inr (hJ i x)
    · exact .inl x
theorem Now.le {st s s' : St} {I : Nat → Prop} {A : Asn} (h : Now st I A s) (hl : s.le s') : Now st I A s' := by
  obtain ⟨I2, h2, hs⟩ := h
  have hb := A.bound h2
  exact ⟨I2, A.frame h2 hl.next fun i hi => ⟨hl.cells i (hb i hi), hl.maps i (hb i hi), hl.tok i (hb i hi)⟩, hs.trans ⟨hl.leX _, fun i x => .inl x⟩⟩
theorem Now.own {st s s' : St} {I : Nat → Prop} {A : Asn} {c : Cap} (h : Now st I A s) (ho : Own s s' c) : Now st I (capA c * A) s' := by
  refine h.fresh ho.le (J := capI c) ⟨ho.can, rfl⟩ fun i hi => ?_
  have := ho.fr
  cases c with
  | tail t => cases hi; exact this
  | _ => exact hi.elim
theorem Now.set {st s : St} {I : Nat → Prop} {id : Nat} {cs : List V} {R : Asn} (h : Now st I (cellA id cs * R) s) (cs' : List V) : Now st I (cellA id cs' * R) (s.setC id cs') := by
  refine h.step fun J hJ => ⟨J, ⟨?_, hJ.2⟩, ?_, fun i x => .inl x⟩
  · rw [setC_cells, if_pos rfl, hJ.1]; rfl
  · exact (s.leX_setC id cs').mono fun i _ x => by rw [hJ.2]; exact x
theorem Now.setM {st s : St} {I : Nat → Prop} {id : Nat} {m : List (V × V)} {R : Asn} (h : Now st I (mapA id m * R) s) (m' : List (V × V)) : Now st I (mapA id m' * R) (s.setM id m') := by
  refine h.step fun J hJ => ⟨J, ⟨?_, hJ.2⟩, ?_, fun i x => .inl x⟩
  · rw [setM_maps, if_pos rfl, hJ.1]; rfl
  · exact (s.leX_setM id m').mono fun i _ x => by rw [hJ.2]; exact x
theorem Now.newC {st s : St} {I : Nat → Prop} {A : Asn} (h : Now st I A s) (cs : List V) : Now st I (cellA s.next cs * A) (s.newC cs) :=
  h.fresh ((St.le.refl s).new cs) (J := (· = s.next)) ⟨cells_new _ _, rfl⟩ fun i hi => Nat.le_of_eq hi.symm
theorem Now.newM {st s : St} {I : Nat → Prop} {A : Asn} (h : Now st I A s) : Now st I (mapA s.next [] * A) s.newM :=
  h.fresh (St.le.refl s).newM (J := (· = s.next)) ⟨by rw [newM_maps, if_pos rfl], rfl⟩ fun i hi => Nat.le_of_eq hi.symm
theorem Now.app {st s s' : St} {I : Nat → Prop} {c c' : Cap} {m : List V} {R : Asn} (h : Now st I (capA c * R) s) (ha : Apd s c m c' s') : Now st I (capA c' * R) s' := by
  refine h.step fun J hJ => ⟨capI c', ⟨?_, rfl⟩, ?_⟩
  · obtain ⟨rfl, rfl⟩ := ha; exact canApp_app _ _ _ hJ.1
  · obtain ⟨rfl, rfl⟩ := ha
    obtain ⟨hc, rfl⟩ := hJ
    by_cases hm : m = []
    · subst hm; exact .refl _ _
    · rw [appSt_cons _ _ hm, appCap_cons _ _ hm]
      refine ⟨⟨?_, ?_, ?_, ?_⟩, fun i hi => .inr (Nat.le_of_eq (by cases hi; rfl))⟩
      · cases c <;> simp [St.newT, St.killT]
      · cases c <;> intros <;> rfl
      · cases c <;> intros <;> rfl
      · intro i hi hn
        cases c with
        | tail t => show upd (upd s.tok t false) s.next true i = _; rw [upd_ne _ _ (by omega), upd_ne _ _ hn]
        | _ => show upd s.tok s.next true i = _; rw [upd_ne _ _ (by omega)]
theorem Now.frz {st s : St} {I : Nat → Prop} {id : Nat} {cs : List V} {R : Asn} (h : Now st I (cellA id cs * R) s) : Now st I (capA (.tail s.next) * R) (s.killC id).newT := by
  refine h.step fun J hJ => ⟨_, ⟨by simp [canApp, St.newT, St.killC], rfl⟩, ⟨Nat.le_succ _, ?_, ?_, ?_⟩, fun i hi => .inr (Nat.le_of_eq (by cases hi; rfl))⟩
  · intro i hi hn; exact upd_ne _ _ (by rw [hJ.2] at hn; exact hn)
  · intros; rfl
  · intro i hi hn; exact upd_ne _ _ (by show i ≠ s.next; omega)
def Does (P : Program) (f : FuncId) (args : List V) (A : Asn) (Q : Res → Asn) : Prop :=
  ∀ st I, A.holds st I → RCall P f args st fun r s => Now st I (Q r) s
theorem Does.call {P : Program} {f : FuncId} {args : List V} {A R : Asn} {Q : Res → Asn} (sp : Does P f args A Q) {st s : St} {I : Nat → Prop} {K : Res → St → Prop}
    (h : Now st I (A * R) s) (k : ∀ r s', Now st I (Q r * R) s' → K r s') : RCall P f args s K := by
  obtain ⟨J, ⟨I1, I2, h1, h2, hd, rfl⟩, hs⟩ := h
  refine (sp s I1 h1).mono ?_
  rintro r s' hN
  refine k r s' ?_
  have h' : Now st I (A * R) s := ⟨_, ⟨I1, I2, h1, h2, hd, rfl⟩, hs⟩
  obtain ⟨J', hq, hst⟩ := hN
  have hb := R.bound h2
  refine ⟨_, ⟨J', I2, hq, R.frame h2 hst.leX.next fun i hi => ⟨hst.leX.cells i (hb i hi) fun x => hd i x hi, hst.leX.maps i (hb i hi) fun x => hd i x hi, hst.leX.tok i (hb i hi) fun x => hd i x hi⟩,
    fun i a b => ?_, rfl⟩, hs.trans ⟨hst.leX.mono fun i _ x => .inl x, ?_⟩⟩
  · rcases hst.fp i a with x | x
    · exact hd i x b
    · have := hb i b; omega
  · rintro i (x | x)
    · rcases hst.fp i x with y | y
      · exact .inl (.inl y)
      · exact .inr y
    · exact .inl (.inr x)
theorem Now.ex {st s : St} {I : Nat → Prop} {α : Type} {f : α → Asn} {R : Asn} (h : Now st I (ex f * R) s) : ∃ a, Now st I (f a * R) s := by
  obtain ⟨J, ⟨I1, I2, ⟨a, h1⟩, h2, hd, rfl⟩, hs⟩ := h
  exact ⟨a, _, ⟨I1, I2, h1, h2, hd, rfl⟩, hs⟩
theorem Now.pand {st s : St} {I : Nat → Prop} {p : Prop} {A R : Asn} (h : Now st I (pand p A * R) s) : p ∧ Now st I (A * R) s := by
  obtain ⟨J, ⟨I1, I2, ⟨hp, h1⟩, h2, hd, rfl⟩, hs⟩ := h
  exact ⟨hp, _, ⟨I1, I2, h1, h2, hd, rfl⟩, hs⟩
theorem Now.toEx {st s : St} {I : Nat → Prop} {α : Type} {f : α → Asn} {R : Asn} (a : α) (h : Now st I (f a * R) s) : Now st I (Go.Sim.ex f * R) s := h.imp fun _ hJ => ⟨a, hJ⟩
theorem Now.toPand {st s : St} {I : Nat → Prop} {p : Prop} {A R : Asn} (hp : p) (h : Now st I (A * R) s) : Now st I (Go.Sim.pand p A * R) s := h.imp fun _ hJ => ⟨hp, hJ⟩
theorem Now.emp {st s : St} {I : Nat → Prop} {A : Asn} (h : Now st I A s) : Now st I (A * Go.Sim.emp) s := h.perm (sep_emp A).symm
theorem Now.unemp {st s : St} {I : Nat → Prop} {A : Asn} (h : Now st I (A * Go.Sim.emp) s) : Now st I A s := h.perm (sep_emp A)
theorem Does.ret {P : Program} {f : FuncId} {args : List V} {A B R : Asn} {v : Res} (sp : Does P f args A fun r => Go.Sim.pand (r = v) B) {st s : St} {I : Nat → Prop} {K : Res → St → Prop}
    (h : Now st I (A * R) s) (k : ∀ s', Now st I (B * R) s' → K v s') : RCall P f args s K := by
  refine sp.call h ?_
  rintro r s' n
  obtain ⟨rfl, n2⟩ := n.pand
  exact k s' n2
theorem Does.retEx {P : Program} {f : FuncId} {args : List V} {α : Type} {A R : Asn} {B : α → Asn} {v : α → Res} (sp : Does P f args A fun r => Go.Sim.ex fun a => Go.Sim.pand (r = v a) (B a)) {st s : St} {I : Nat → Prop} {K : Res → St → Prop}
    (h : Now st I (A * R) s) (k : ∀ a s', Now st I (B a * R) s' → K (v a) s') : RCall P f args s K := by
  refine sp.call h ?_
  rintro r s' n
  obtain ⟨a, n1⟩ := n.ex
  obtain ⟨rfl, n2⟩ := n1.pand
  exact k a s' n2
end Go.Sim
namespace Go.Proofs.YtffenelcgjdbiaaGreatDoor
open Go Go.Sim
set_option maxRecDepth 100000
structure Ev where
  kind : Int
  at_ : Int
  head : List UInt8
  body : List UInt8
def Ev.cells (e : Ev) : List V := [.int .i64 e.kind, .int .i64 e.at_] ++ By e.head ++ [.lst 1 (By e.body) .unk]
def Ev.v (e : Ev) : V := .agg e.cells
def Evs (l : List Ev) : List V := l.map Ev.v
def head12 (b : List UInt8) : List UInt8 := b.take 12 ++ List.replicate (12 - b.length) 0
theorem head12_length (b : List UInt8) : (head12 b).length = 12 := by simp [head12]; omega
structure Dk where
  blocks : Nat
  size : Nat
  now : Int → List UInt8
  trace : List Ev
def Dk.has (x : Dk) (n : Int) : Bool := decide (0 ≤ n ∧ n < x.blocks)
def Dk.block (x : Dk) (n : Int) : List UInt8 := if x.has n then x.now n else []
def Dk.read (x : Dk) (n : Int) : Dk := { x with trace := x.trace ++ [⟨1, n, head12 (x.block n), []⟩] }
def fitL (size : Nat) (b : List UInt8) : List UInt8 := b.take size ++ List.replicate (size - b.length) 0
theorem fitL_length (size : Nat) (b : List UInt8) : (fitL size b).length = size := by simp [fitL]; omega
def Dk.write (x : Dk) (n : Int) (b : List UInt8) : Dk :=
  { x with now := fun i => if x.has n ∧ i = n then fitL x.size b else x.now i
           trace := x.trace ++ [⟨2, n, head12 (fitL x.size b), fitL x.size b⟩] }
def Dk.new (blocks size : Nat) : Dk := ⟨blocks, size, fun _ => List.replicate size 0, []⟩
def MapOk (x : Dk) (m : List (V × V)) : Prop :=
  ∀ n : Int, (lookM m .i64 n = some none ∧ x.now n = List.replicate x.size 0) ∨ (lookM m .i64 n = some (some (.lst 1 (By (x.now n)) .unk)) ∧ (x.now n).length = x.size)
def dkC (x : Dk) (sm nm : Nat) (lo : List V) (c ct : Cap) : List V :=
  [.int .i64 x.blocks, .int .i64 x.size, .map sm, .map nm, .lst 2 lo c, .int .i64 (-1), .bool false, .lst 15 (Evs x.trace) ct]
structure DkH where
  sm : Nat
  nm : Nat
  lo : List V
  c : Cap
  ct : Cap
  m : List (V × V)
def DkI (d : Nat) (x : Dk) (q : DkH) : Asn := cellA d (dkC x q.sm q.nm q.lo q.c q.ct) * (mapA q.nm q.m * (capA q.c * capA q.ct))
def DkA (d : Nat) (x : Dk) : Asn := ex fun q => pand (MapOk x q.m ∧ q.lo.length ≤ x.trace.length) (DkI d x q)
theorem lookM_upd {m : List (V × V)} {k : Int} {v : V} (h : (lookM m .i64 k).isSome = true) (j : Int) : lookM (updM m .i64 k v) .i64 j = if j = k then some (some v) else lookM m .i64 j := by
  induction m with
  | nil =>
    by_cases hj : j = k
    · subst hj; simp [updM, lookM]
    · rw [if_neg hj]; simp [updM, lookM, hj]
  | cons a r ih =>
    obtain ⟨a, u⟩ := a
    cases a with
    | int kj i =>
      simp only [lookM] at h
      by_cases hk : IntKind.i64 = kj
      · subst hk
        simp only [if_true] at h
        by_cases hi : k = i
        · subst hi
          by_cases hj : j = k
          · subst hj; simp [updM, lookM]
          · simp [updM, lookM, hj]
        · simp only [if_neg hi] at h
          simp only [updM, if_neg hi, lookM, if_true]
          rw [ih h]
          by_cases hj : j = k
          · subst hj; simp [hi]
          · simp only [if_neg hj]
      · rw [if_neg hk] at h; cases h
    | _ => cases h
theorem dkOpen {st s : St} {I : Nat → Prop} {d : Nat} {x : Dk} {R : Asn} (h : Now st I (DkA d x * R) s) :
    ∃ sm nm lo c ct m, MapOk x m ∧ lo.length ≤ x.trace.length ∧ Now st I (cellA d (dkC x sm nm lo c ct) * (mapA nm m * (capA c * (capA ct * R)))) s := by
  obtain ⟨q, n1⟩ := h.ex
  obtain ⟨hm, n2⟩ := n1.pand
  exact ⟨q.sm, q.nm, q.lo, q.c, q.ct, q.m, hm.1, hm.2, n2.perm (by simp only [DkI, sep_assoc])⟩
theorem dkClose {st s : St} {I : Nat → Prop} {d : Nat} {x : Dk} {R : Asn} {sm nm : Nat} {lo : List V} {c ct : Cap} {m : List (V × V)} (hm : MapOk x m) (hl : lo.length ≤ x.trace.length)
    (h : Now st I (cellA d (dkC x sm nm lo c ct) * (mapA nm m * (capA c * (capA ct * R)))) s) : Now st I (DkA d x * R) s := by
  refine Now.toEx ⟨sm, nm, lo, c, ct, m⟩ (Now.toPand ⟨hm, hl⟩ (h.perm ?_))
  simp only [DkI, sep_assoc]
theorem New_spec (blocks size : Nat) (hb : blocks ≤ 100000) (hs : size ≤ 60000) (st : St) : RCall Tryz.prog F_disk_New [.int .i64 blocks, .int .i64 size] st fun r s => ∃ d, r = .ret (.ptr d 0) ∧ Now st (fun _ => False) (DkA d (.new blocks size)) s := by
  refine w_disk_New ?_
  intro st3 h3 st4 h4 st5 h5
  refine ⟨_, rfl, ?_⟩
  have n0 : Now st (fun _ => False) emp st := Now.init rfl
  have n3 := n0.newM
  rw [← h3] at n3
  have n4 := n3.newM
  rw [← h4] at n4
  have n5 := n4.newC [.int .i64 (min (max (blocks : Int) 0) 100000), .int .i64 (min (max (size : Int) 0) 60000), .map st.next, .map st3.next, .lst 2 [] .nil, .int .i64 (-1), .bool false, .lst 15 [] .nil]
  rw [← h5, show min (max (blocks : Int) 0) 100000 = blocks by omega, show min (max (size : Int) 0) 60000 = size by omega] at n5
  have n5 : Now st (fun _ => False) (cellA st4.next (dkC (.new blocks size) st.next st3.next [] .nil .nil) * (mapA st3.next [] * (mapA st.next [] * emp))) st5 := n5.perm (by rw [h4]; rfl)
  have n6 := (n5.own (Own.nil (.refl st5))).own (Own.nil (.refl st5))
  have n7 := dkClose (x := .new blocks size) (lo := []) (fun n => .inl ⟨rfl, rfl⟩) (Nat.le_refl _) (n6.perm (B := cellA st4.next (dkC (.new blocks size) st.next st3.next [] .nil .nil) * (mapA st3.next [] * (capA .nil * (capA .nil * (mapA st.next [] * emp))))) (by ac_rfl))
  exact (n7.perm (sep_comm _ _)).drop
theorem Size_spec {d : Nat} {x : Dk} : Does Tryz.prog F_disk_Disk_Size [.ptr d 0] (DkA d x) fun r => pand (r = .ret (.int .i64 x.size)) (DkA d x) := by
  intro st I h
  have n := (Now.init h).emp
  obtain ⟨sm, nm, lo, c, ct, m, hm, hl, n3⟩ := dkOpen n
  exact w_disk_Disk_Size ⟨_, ldv1 n3.cells rfl, (Now.toPand rfl n).unemp⟩
theorem has_spec' {d : Nat} {cs : List V} {b : Nat} (h0 : cs[0]? = some (.int .i64 b)) (n : Int) {st : St} (hc : st.cells d = some cs) :
    RCall Tryz.prog F_disk_Disk_has [.ptr d 0, .int .i64 n] st fun r s => r = .ret (.bool (decide (0 ≤ n ∧ n < b))) ∧ s = st := by
  refine w_disk_Disk_has ?_
  intro K hK
  refine br (fun h => ⟨_, ldv1 hc h0, hK _ _ ⟨?_, rfl⟩⟩) fun h => hK _ _ ⟨?_, rfl⟩
  · congr 2; simp; omega
  · congr 2; simp; omega
theorem count_spec {d : Nat} {x : Dk} {sm nm : Nat} {lo : List V} {c ct : Cap} : Does Tryz.prog F_disk_Disk_count [.ptr d 0] (cellA d (dkC x sm nm lo c ct)) fun r => pand (r = .ret (.tup [])) (cellA d (dkC x sm nm lo c ct)) := by
  intro st I h
  have n := (Now.init h).emp
  refine w_disk_Disk_count ?_
  refine ⟨_, ldv1 n.cells rfl, fun K hK => ⟨fun _ => ⟨_, ldv1 n.cells rfl, hK _ _ ?_⟩, fun h => by cases h⟩⟩
  refine ⟨_, n.cells, by simp [dkC], ?_⟩
  rintro st8 rfl
  have n2 := n.set (dkC x sm nm lo c ct)
  have e : (dkC x sm nm lo c ct).set 6 (.bool ((-1 : Int) == 0)) = dkC x sm nm lo c ct := rfl
  rw [e]
  refine ⟨false, ldv1 n2.cells rfl, fun h => (by cases h), fun _ => ⟨-1, ldv1 n2.cells rfl, ?_⟩⟩
  exact br (fun h => by omega) fun _ => (n2.toPand rfl).unemp
theorem elemsOf_lst (st : St) (sz : Nat) (l : List V) (c : Cap) : elemsOf st sz (.lst sz l c) = some l := by simp [elemsOf]
theorem block_spec {d : Nat} {x : Dk} {sm nm : Nat} {lo : List V} {c ct : Cap} {m : List (V × V)} (n : Int) (hm : MapOk x m) (hs : x.size ≤ 60000) {st : St} (hc : st.cells d = some (dkC x sm nm lo c ct)) (hn : st.maps nm = some m) :
    RCall Tryz.prog F_disk_Disk_block [.ptr d 0, .map nm, .int .i64 n] st fun r s => ∃ c', r = .ret (.lst 1 (By (x.block n)) c') ∧ Own st s c' := by
  refine w_disk_Disk_block ?_
  refine (has_spec' rfl n hc).mono ?_
  rintro _ st5 ⟨rfl, rfl⟩
  have hb : x.block n = if decide (0 ≤ n ∧ n < x.blocks) = true then x.now n else [] := rfl
  refine ⟨_, rfl, fun h => ⟨_, ?_, Own.nil (.refl _)⟩, fun h => ?_⟩
  · rw [hb, if_neg (by simp only [Bool.not_eq_true'] at h; rw [h]; decide)]; rfl
  rw [hb, if_pos (by simpa only [Bool.not_eq_false'] using h)]
  refine ⟨_, ldv1 hc rfl, x.size, x.size, rfl, rfl, Nat.le_refl _, by omega, ?_⟩
  intro st10 h10
  have e1 : (List.replicate x.size [V.int .u8 0]).flatten = By (List.replicate x.size 0) := by
    rw [← By_rep]; generalize x.size = k
    induction k with
    | zero => rfl
    | succ k ih => rw [List.replicate_succ, List.flatten_cons, ih]; rfl
  rw [e1] at h10
  have c10 : st10.cells st5.next = some (By (List.replicate x.size 0)) := by rw [h10]; exact cells_new _ _
  have m10 : st10.maps nm = some m := by rw [h10]; exact hn
  have l10 : st5.le st10 := by rw [h10]; exact (St.le.refl _).new _
  have fin : ∀ l : List UInt8, l.length ≤ x.size → x.now n = l ++ List.replicate (x.size - l.length) 0 →
      ∃ (l13 cs14 : List V), elemsOf st10 1 (V.lst 1 (By l) .unk) = some l13 ∧ st10.cells st5.next = some cs14 ∧ 0 + (min l13.length x.size) * 1 ≤ cs14.length ∧ ∀ st15 : St, st15 = st10.setC st5.next (repl cs14 0 (flat (l13.take (min l13.length x.size)))) → ∃ cs16 l17 : List V, st15.cells st5.next = some cs16 ∧ frzL false 1 0 x.size x.size cs16 = some l17 ∧ ∀ st18 : St, st18 = (st15.killC st5.next).newT → ∃ c', Res.ret (V.lst 1 l17 (Cap.tail st15.next)) = .ret (.lst 1 (By (x.now n)) c') ∧ Own st5 st18 c' := by
    intro l hl he
    refine ⟨By l, _, elemsOf_lst _ _ _ _, c10, by simp; omega, ?_⟩
    intro st15 h15
    have e2 : repl (By (List.replicate x.size 0)) 0 (flat ((By l).take (min (By l).length x.size))) = By (x.now n ++ []) := by
      rw [By_length, Nat.min_eq_left hl, By_take, By_flat, List.take_length, he, List.append_nil, By_append]
      simp only [repl, List.take_zero, List.nil_append, By_length, Nat.zero_add, By_drop, List.drop_replicate]
    rw [e2] at h15
    have c15 : st15.cells st5.next = some (By (x.now n ++ [])) := by rw [h15]; exact cells_set c10
    have hlen : (x.now n).length = x.size := by rw [he]; simp; omega
    have hf := frz_By (l := x.now n) (sp := []) (cap := x.size) (by simp [hlen])
    rw [hlen] at hf
    refine ⟨_, _, c15, hf, ?_⟩
    rintro st18 rfl
    exact ⟨_, rfl, Own.frz (by rw [h15]; exact l10.set (Nat.le_refl _) _) (Nat.le_refl _)⟩
  rcases hm n with ⟨h1, h2⟩ | ⟨h1, h2⟩
  · refine ⟨By [], .nil, false, by simp [St.mlook, m10, h1], ?_⟩
    obtain ⟨a, b, x1, x2, x3, x4⟩ := fin [] (by simp) (by rw [h2]; simp)
    exact ⟨a, b, x1, x2, x3, x4⟩
  · refine ⟨By (x.now n), .unk, true, by simp [St.mlook, m10, h1], ?_⟩
    exact fin (x.now n) (by omega) (by simp [h2])
theorem evs_append (l : List Ev) (e : Ev) : Evs (l ++ [e]) = Evs l ++ [e.v] := by simp [Evs]
theorem repl_head (k n : Int) (b : List UInt8) (v : V) : repl ([V.int .i64 k, .int .i64 n] ++ List.replicate 12 (V.int .u8 0) ++ [v]) 2 (By (b.take 12)) = [.int .i64 k, .int .i64 n] ++ By (head12 b) ++ [v] := by
  have h12 : (b.take 12).length ≤ 12 := by simp; omega
  rw [By_rep, repl, head12, By_append]
  have e : (12 - b.length) = 12 - (b.take 12).length := by simp; omega
  rw [e]
  generalize b.take 12 = h at h12 ⊢
  rw [show ([V.int .i64 k, .int .i64 n] ++ By (List.replicate 12 0) ++ [v]) = [V.int .i64 k, .int .i64 n] ++ (By (List.replicate 12 0) ++ [v]) by simp]
  rw [show ∀ l : List V, List.take 2 ([V.int .i64 k, .int .i64 n] ++ l) = [V.int .i64 k, .int .i64 n] from fun l => rfl, List.drop_append, List.drop_of_length_le (by simp), By_length]
  simp only [List.length_cons, List.length_nil, Nat.zero_add, List.nil_append, Nat.reduceAdd, Nat.add_sub_cancel_left]
  rw [List.drop_append_of_le_length (by simpa using h12), By_drop, List.drop_replicate]
  simp only [List.append_assoc]
theorem note_spec {d : Nat} {kind n : Int} {b body : List UInt8} {c4 c5 ct : Cap} {cs : List V} {tr : List Ev} (h7 : cs[7]? = some (.lst 15 (Evs tr) ct)) (ht : tr.length ≤ 2 ^ 40) :
    Does Tryz.prog F_disk_Disk_note [.ptr d 0, .int .i64 kind, .int .i64 n, .lst 1 (By b) c4, .lst 1 (By body) c5] (cellA d cs * capA ct)
      fun r => pand (r = .ret (.tup [])) (ex fun ct' => cellA d (cs.set 7 (.lst 15 (Evs (tr ++ [⟨kind, n, head12 b, body⟩])) ct')) * capA ct') := by
  intro st I h
  have n0 := Now.init h
  have hl7 : 7 < cs.length := (List.getElem?_eq_some_iff.1 h7).1
  refine w_disk_Disk_note ?_
  intro st6 h6
  have n6 := n0.newC ([(V.int .i64 0), (V.int .i64 0)] ++ List.replicate 12 (V.int .u8 0) ++ [(V.lst 1 ([] : List V) Cap.nil)])
  rw [← h6] at n6
  refine ⟨by simp, rfl, _, n6.cells, by simp, ?_⟩
  intro st8 h8
  have n8 := n6.set ([(V.int .i64 kind), (V.int .i64 n)] ++ List.replicate 12 (V.int .u8 0) ++ [(V.lst 1 (By body) c5)])
  rw [repl_all' (by simp)] at h8
  rw [← h8] at n8
  refine ⟨min b.length 12, by rw [By_length]; omega, by rw [By_length]; omega, (By b).take (min b.length 12), _, elemsOf_lst _ _ _ _, n8.cells, by simp; omega, ?_⟩
  intro st12 h12
  have e1 : flat (((By b).take (min b.length 12)).take (min ((By b).take (min b.length 12)).length 12)) = By (b.take 12) := by
    rw [By_take, By_length, By_take, By_flat]
    congr 1
    rw [List.take_take, List.length_take]
    rcases Nat.le_total b.length 12 with hb | hb
    · rw [List.take_of_length_le (by omega), List.take_of_length_le hb]
    · congr 1; omega
  rw [e1, repl_head] at h12
  have n12 := n8.set ([V.int .i64 kind, .int .i64 n] ++ By (head12 b) ++ [(V.lst 1 (By body) c5)])
  rw [← h12] at n12
  have e2 : ([V.int .i64 kind, .int .i64 n] ++ By (head12 b) ++ [(V.lst 1 (By body) c5)]).length = 15 := by simp [head12_length]
  have n13 : Now st I (cellA d cs * (capA ct * cellA st.next ([V.int .i64 kind, .int .i64 n] ++ By (head12 b) ++ [(V.lst 1 (By body) c5)]))) st12 := n12.perm (by ac_rfl)
  have n14 : Now st I (capA ct * (cellA d cs * cellA st.next ([V.int .i64 kind, .int .i64 n] ++ By (head12 b) ++ [(V.lst 1 (By body) c5)]))) st12 := n12.perm (by ac_rfl)
  refine ⟨_, _, ldv1 n13.cells h7, _, ldvg n12.cells e2, ?_, ⟨n14.can, by rw [Evs, List.length_map]; omega⟩, ?_⟩
  · intro v hv
    rw [List.mem_singleton] at hv
    subst hv
    exact ⟨e2, rfl⟩
  intro c15 st16 ha
  have n16 := n14.app ha
  have n17 : Now st I (cellA d cs * (capA c15 * cellA st.next ([V.int .i64 kind, .int .i64 n] ++ By (head12 b) ++ [(V.lst 1 (By body) c5)]))) st16 := n16.perm (by ac_rfl)
  refine ⟨_, n17.cells, hl7, ?_⟩
  intro st18 h18
  have e3 : List.map V.wk1 ([V.int .i64 kind, .int .i64 n] ++ By (head12 b) ++ [(V.lst 1 (By body) c5)]) = Ev.cells ⟨kind, n, head12 b, body⟩ := by
    rw [List.map_append, List.map_append, By_wk1]; rfl
  rw [e3] at h18
  have n18 := n17.set (cs.set 7 (.lst 15 (Evs (tr ++ [⟨kind, n, head12 b, body⟩])) c15))
  rw [evs_append] at n18 ⊢
  rw [show V.agg (Ev.cells ⟨kind, n, head12 b, body⟩) = Ev.v ⟨kind, n, head12 b, body⟩ from rfl] at h18
  rw [← h18] at n18
  have n19 := (n18.perm (B := cellA st.next ([V.int .i64 kind, .int .i64 n] ++ By (head12 b) ++ [(V.lst 1 (By body) c5)]) * ((cellA d (cs.set 7 (.lst 15 (Evs tr ++ [Ev.v ⟨kind, n, head12 b, body⟩]) c15)) * capA c15))) (by ac_rfl)).drop
  exact (Now.toPand rfl (Now.toEx c15 n19.emp)).unemp
theorem Read_spec {d : Nat} {x : Dk} (n : Int) (hs : x.size ≤ 60000) (ht : x.trace.length ≤ 2 ^ 40) :
    Does Tryz.prog F_disk_Disk_Read [.ptr d 0, .int .i64 n] (DkA d x) fun r => ex fun c => pand (r = .ret (.lst 1 (By (x.block n)) c)) (DkA d (x.read n)) := by
  intro st I h
  refine w_disk_Disk_Read ?_
  obtain ⟨sm, nm, lo, c, ct, m, hm, hl, n1⟩ := dkOpen (Now.init h).emp
  refine count_spec.ret n1 ?_
  intro s2 n2
  have n2' : Now st I (mapA nm m * (cellA d (dkC x sm nm lo c ct) * (capA c * (capA ct * emp)))) s2 := n2.perm (by ac_rfl)
  refine ⟨rfl, _, ldv1 n2.cells rfl, ?_⟩
  refine (block_spec n hm hs n2.cells n2'.maps).mono ?_
  rintro _ s3 ⟨c', rfl, ho⟩
  refine ⟨_, _, rfl, ?_⟩
  have n3 : Now st I (cellA d (dkC x sm nm lo c ct) * capA ct * (mapA nm m * (capA c * emp))) s3 := (n2.le ho.le).perm (by ac_rfl)
  refine (note_spec (body := []) rfl ht).ret n3 ?_
  intro s4 n4'
  obtain ⟨ct', n4⟩ := n4'.ex
  refine ⟨rfl, ?_⟩
  have n5 := dkClose (x := x.read n) (R := emp) (sm := sm) (lo := lo) hm (by simp only [Dk.read, List.length_append]; omega) (n4.perm (B := cellA d (dkC (x.read n) sm nm lo c ct') * (mapA nm m * (capA c * (capA ct' * emp)))) (by rw [show (dkC x sm nm lo c ct).set 7 (.lst 15 (Evs (x.trace ++ [⟨1, n, head12 (x.block n), []⟩])) ct') = dkC (x.read n) sm nm lo c ct' from rfl]; ac_rfl))
  exact (Now.toEx c' (Now.toPand rfl n5)).unemp
theorem mapOk_write {x : Dk} {m : List (V × V)} (hm : MapOk x m) {n : Int} (hn : x.has n = true) (b : List UInt8) :
    (lookM m .i64 n).isSome = true ∧ MapOk (x.write n b) (updM m .i64 n (.lst 1 (By (fitL x.size b)) .unk)) := by
  have h1 : (lookM m .i64 n).isSome = true := by rcases hm n with h | h <;> rw [h.1] <;> rfl
  refine ⟨h1, fun i => ?_⟩
  rw [lookM_upd h1]
  by_cases hi : i = n
  · right
    have e : (x.write n b).now i = fitL x.size b := if_pos ⟨hn, hi⟩
    rw [if_pos hi, e]
    exact ⟨rfl, fitL_length _ _⟩
  · have e : (x.write n b).now i = x.now i := if_neg fun h => hi h.2
    rw [if_neg hi, e]
    exact hm i
theorem mapOk_out {x : Dk} {m : List (V × V)} (hm : MapOk x m) {n : Int} (hn : x.has n = false) (b : List UInt8) : MapOk (x.write n b) m := by
  intro i
  have e : (x.write n b).now i = x.now i := if_neg fun h => by rw [hn] at h; cases h.1
  rw [e]; exact hm i
theorem new_fit (size : Nat) (b : List UInt8) : repl (By (List.replicate size 0)) 0 (flat ((By b).take (min (By b).length size))) = By (fitL size b) := by
  rw [By_length, By_take, By_flat, fitL, By_append]
  simp only [repl, List.take_zero, List.nil_append, By_length, Nat.zero_add, By_drop, List.drop_replicate, List.length_take]
  rcases Nat.le_total b.length size with h | h
  · rw [Nat.min_eq_left h, List.take_of_length_le (Nat.le_refl _), List.take_of_length_le h, Nat.min_self]
  · rw [Nat.min_eq_right h, Nat.min_eq_left h]
    congr 3; omega
theorem zeros_flat (k : Nat) : (List.replicate k [V.int .u8 0]).flatten = By (List.replicate k 0) := by
  rw [← By_rep]
  induction k with
  | zero => rfl
  | succ k ih => rw [List.replicate_succ, List.flatten_cons, ih]; rfl
theorem Write_spec {d : Nat} {x : Dk} (n : Int) (b : List UInt8) (c : Cap) (hs : x.size ≤ 60000) (ht : x.trace.length ≤ 2 ^ 40) :
    Does Tryz.prog F_disk_Disk_Write [.ptr d 0, .int .i64 n, .lst 1 (By b) c] (DkA d x) fun r => pand (r = .ret (.tup [])) (DkA d (x.write n b)) := by
  intro st I h
  refine w_disk_Disk_Write ?_
  obtain ⟨sm, nm, lo, cl, ct, m, hm, hl, n1⟩ := dkOpen (Now.init h).emp
  refine count_spec.ret n1 ?_
  intro s5 n5
  refine ⟨rfl, _, ldv1 n5.cells rfl, x.size, x.size, rfl, rfl, Nat.le_refl _, by omega, ?_⟩
  rw [zeros_flat]
  intro s9 h9
  have n9 := n5.newC (By (List.replicate x.size 0))
  rw [← h9] at n9
  refine ⟨By b, _, elemsOf_lst _ _ _ _, n9.cells, by simp; omega, ?_⟩
  rw [new_fit]
  intro s12 h12
  have n12 := n9.set (By (fitL x.size b))
  rw [← h12] at n12
  have hf := frz_By (l := fitL x.size b) (sp := []) (cap := x.size) (by simp [fitL_length])
  rw [fitL_length, List.append_nil] at hf
  refine ⟨_, _, n12.cells, hf, ?_⟩
  intro s15 h15
  have n15 := n12.frz
  rw [← h15] at n15
  refine (Clone_spec (By (fitL x.size b)) _ (by rw [By_length, fitL_length]; omega) s15).mono ?_
  rintro _ s17 ⟨c17, rfl, ho⟩
  refine ⟨_, _, rfl, ?_⟩
  have n17 : Now st I (cellA d (dkC x sm nm lo cl ct) * capA ct * (mapA nm m * (capA cl * emp))) s17 := ((n15.le ho.le).drop).perm (by ac_rfl)
  refine (note_spec (body := fitL x.size b) (tr := x.trace) rfl ht).ret n17 ?_
  intro s20 n20'
  obtain ⟨ct', n20a⟩ := n20'.ex
  have n20 : Now st I (cellA d (dkC ⟨x.blocks, x.size, x.now, x.trace ++ [⟨2, n, head12 (fitL x.size b), fitL x.size b⟩]⟩ sm nm lo cl ct') * (capA ct' * (mapA nm m * (capA cl * emp)))) s20 :=
    n20a.perm (by rw [sep_assoc]; rfl)
  refine ⟨rfl, ?_⟩
  refine (has_spec' rfl n n20.cells).mono ?_
  rintro _ s22 ⟨rfl, rfl⟩
  have hh : x.has n = decide (0 ≤ n ∧ n < x.blocks) := rfl
  rw [← hh]
  refine ⟨_, rfl, fun h1 => ?_, fun h1 => ?_⟩
  · have h2 : x.has n = false := by simpa using h1
    have e : dkC ⟨x.blocks, x.size, x.now, x.trace ++ [⟨2, n, head12 (fitL x.size b), fitL x.size b⟩]⟩ sm nm lo cl ct' = dkC (x.write n b) sm nm lo cl ct' := rfl
    rw [e] at n20
    have n21 := dkClose (x := x.write n b) (R := emp) (mapOk_out hm h2 b) (by simp only [Dk.write, List.length_append]; omega) (n20.perm (B := cellA d (dkC (x.write n b) sm nm lo cl ct') * (mapA nm m * (capA cl * (capA ct' * emp)))) (by ac_rfl))
    exact (Now.toPand rfl n21).unemp
  · have h2 : x.has n = true := by simpa using h1
    obtain ⟨h3, h4⟩ := mapOk_write hm h2 b
    have n21 := n20.perm (B := mapA nm m * (cellA d (dkC ⟨x.blocks, x.size, x.now, x.trace ++ [⟨2, n, head12 (fitL x.size b), fitL x.size b⟩]⟩ sm nm lo cl ct') * (capA ct' * (capA cl * emp)))) (by ac_rfl)
    refine ⟨nm, ldv1 n20.cells rfl, m, n21.maps, h3, ?_⟩
    intro s26 h26
    have n26 := n21.setM (updM m .i64 n (.lst 1 (By (fitL x.size b)) .unk))
    rw [← h26] at n26
    have n27 := n26.perm (B := cellA d (dkC ⟨x.blocks, x.size, x.now, x.trace ++ [⟨2, n, head12 (fitL x.size b), fitL x.size b⟩]⟩ sm nm lo cl ct') * (mapA nm (updM m .i64 n (.lst 1 (By (fitL x.size b)) .unk)) * (capA ct' * (capA cl * emp)))) (by ac_rfl)
    have n28 := n26.perm (B := capA cl * (cellA d (dkC ⟨x.blocks, x.size, x.now, x.trace ++ [⟨2, n, head12 (fitL x.size b), fitL x.size b⟩]⟩ sm nm lo cl ct') * (mapA nm (updM m .i64 n (.lst 1 (By (fitL x.size b)) .unk)) * (capA ct' * emp)))) (by ac_rfl)
    refine ⟨lo, cl, ldv1 n27.cells rfl, ⟨n28.can, by omega⟩, ?_⟩
    intro c28 s29 ha
    have n29 := (n28.app ha).perm (B := cellA d (dkC ⟨x.blocks, x.size, x.now, x.trace ++ [⟨2, n, head12 (fitL x.size b), fitL x.size b⟩]⟩ sm nm lo cl ct') * (mapA nm (updM m .i64 n (.lst 1 (By (fitL x.size b)) .unk)) * (capA c28 * (capA ct' * emp)))) (by ac_rfl)
    refine ⟨_, n29.cells, by simp [dkC], ?_⟩
    intro s31 h31
    have n31 := n29.set (dkC (x.write n b) sm nm (lo ++ [.agg [.int .i64 n, .lst 1 (By (fitL x.size b)) .unk]]) c28 ct')
    have e : (dkC ⟨x.blocks, x.size, x.now, x.trace ++ [⟨2, n, head12 (fitL x.size b), fitL x.size b⟩]⟩ sm nm lo cl ct').set 4 (.lst 2 (lo ++ [.agg [.int .i64 n, .lst 1 (By (fitL x.size b)) .unk]]) c28) = dkC (x.write n b) sm nm (lo ++ [.agg [.int .i64 n, .lst 1 (By (fitL x.size b)) .unk]]) c28 ct' := rfl
    rw [e] at h31
    rw [← h31] at n31
    have n32 := dkClose (x := x.write n b) (R := emp) h4 (by simp only [Dk.write, List.length_append, List.length_cons, List.length_nil]; omega) n31
    exact (Now.toPand rfl n32).unemp
def EvOk (e : Ev) : Prop := e.head.length = 12 ∧ e.body.length ≤ 60000
theorem ev_length {e : Ev} (h : EvOk e) : e.cells.length = 15 := by simp [Ev.cells, h.1]
theorem Trace_spec {d : Nat} {x : Dk} (ho : ∀ e ∈ x.trace, EvOk e) (ht : x.trace.length ≤ 2 ^ 40) :
    Does Tryz.prog F_disk_Disk_Trace [.ptr d 0] (DkA d x) fun r => ex fun c => pand (r = .ret (.lst 15 (Evs x.trace) c)) (DkA d x) := by
  intro st I h
  have n0 := (Now.init h).emp
  obtain ⟨sm, nm, lo, cl, ct, m, hm, hl, n1⟩ := dkOpen n0
  refine w_disk_Disk_Trace ?_
  refine ⟨_, _, ldv1 n1.cells rfl, ?_⟩
  refine ⟨fun n out c i s => ∃ k : Nat, i = k ∧ k ≤ x.trace.length ∧ n = x.trace.length - k ∧ out = Evs (x.trace.take k) ∧ Own st s c, ⟨x.trace.length, 0, rfl, by omega, rfl, rfl, Own.nil (.refl st)⟩, ?_⟩
  rintro _ _ c3 _ s7 ⟨k, rfl, hk, rfl, rfl, h7⟩
  have hlen : (Evs x.trace).length = x.trace.length := by simp [Evs]
  rw [hlen]
  refine br (fun hlt => ?_) fun hge => ?_
  · have hk' : k < x.trace.length := by omega
    have he := ho _ (List.getElem_mem hk')
    have hg : (Evs x.trace)[k]? = some (.agg (x.trace[k].cells)) := by simp [Evs, hk', Ev.v]
    have hf : fldV x.trace[k].cells 0 15 true = some (.agg x.trace[k].cells) := by
      rw [fldV, if_pos (by rw [ev_length he]; decide), List.drop_zero, List.take_of_length_le (by rw [ev_length he]; decide)]; rfl
    refine ⟨k, rfl, _, hg, _, hf, ?_⟩
    intro s11 h11
    have c11 : s11.cells s7.next = some ([(V.int .i64 0), (V.int .i64 0)] ++ List.replicate 12 (V.int .u8 0) ++ [(V.lst 1 ([] : List V) Cap.nil)]) := by rw [h11]; exact cells_new _ _
    refine ⟨ev_length he, rfl, _, c11, by decide, ?_⟩
    intro s13 h13
    rw [repl_all' (by rw [ev_length he]; decide)] at h13
    have c13 : s13.cells s7.next = some x.trace[k].cells := by rw [h13]; exact cells_set c11
    have hd : x.trace[k].cells = ([.int .i64 x.trace[k].kind, .int .i64 x.trace[k].at_] ++ By x.trace[k].head) ++ [.lst 1 (By x.trace[k].body) .unk] := rfl
    have h14 : x.trace[k].cells[14]? = some (.lst 1 (By x.trace[k].body) .unk) := by
      rw [hd, List.getElem?_append_right (by simp [he.1])]; simp [he.1]
    refine ⟨_, _, ldv1 c13 h14, ?_⟩
    refine (Clone_spec (By x.trace[k].body) _ (by have := he.2; rw [By_length]; omega) s13).mono ?_
    rintro _ s16 ⟨c17, rfl, h17⟩
    refine ⟨_, _, rfl, ?_⟩
    have c16 : s16.cells s7.next = some x.trace[k].cells := h17.le.getC c13
    refine ⟨_, c16, by rw [ev_length he]; decide, ?_⟩
    intro s19 h19
    have c19 : s19.cells s7.next = some (x.trace[k].cells.set 14 (.lst 1 (By x.trace[k].body) c17)) := by rw [h19]; exact cells_set c16
    have o19 : Own st s19 c3 := by
      refine h7.step ?_
      rw [h19]
      refine St.le.set ?_ (Nat.le_refl _) _
      refine St.le.trans ?_ h17.le
      rw [h13]
      refine St.le.set ?_ (Nat.le_refl _) _
      rw [h11]; exact (St.le.refl _).new _
    have e19 : x.trace[k].cells.set 14 (.lst 1 (By x.trace[k].body) c17) = ([.int .i64 x.trace[k].kind, .int .i64 x.trace[k].at_] ++ By x.trace[k].head) ++ [.lst 1 (By x.trace[k].body) c17] := by
      rw [hd, List.set_append_right _ _ (by simp [he.1])]; simp [he.1]
    refine ⟨_, ldvg c19 (by rw [List.length_set, ev_length he]), ?_, o19.has (by have : (Evs (x.trace.take k)).length ≤ k := (by simp [Evs]; omega); omega), ?_⟩
    · intro v hv
      rw [List.mem_singleton] at hv
      subst hv
      exact ⟨by show (List.set _ _ _).length = 15; rw [List.length_set, ev_length he], rfl⟩
    intro c21 s22 ha
    refine ⟨x.trace.length - (k + 1), by omega, k + 1, by rw [w64 (by omega)]; omega, by omega, rfl, ?_, o19.app ha⟩
    rw [List.take_succ_eq_append_getElem hk', evs_append, e19, List.map_append, List.map_append, By_wk1]
    rfl
  · rw [List.take_of_length_le (by omega)]
    have n2 := n0.le h7.le
    exact (Now.toEx c3 (Now.toPand rfl n2)).unemp
end Go.Proofs.YtffenelcgjdbiaaGreatDoor
namespace Go.Proofs.YtffenelcgjdbiaaGreatDoor
open Go Go.Sim
set_option maxRecDepth 100000
def retO (o : Option (List UInt8)) (c : Cap) : Res := .ret (.tup [.lst 1 (By (o.getD [])) c, .bool o.isSome])
theorem dkLen {st s : St} {I : Nat → Prop} {d : Nat} {x : Dk} {R : Asn} (h : Now st I (DkA d x * R) s) (n : Int) : (x.now n).length = x.size := by
  obtain ⟨_, _, _, _, _, m, hm, _, _⟩ := dkOpen h
  rcases hm n with h | h
  · rw [h.2, List.length_replicate]
  · exact h.2
theorem dkLenB {st s : St} {I : Nat → Prop} {d : Nat} {x : Dk} {R : Asn} (h : Now st I (DkA d x * R) s) (n : Int) : (x.block n).length ≤ x.size := by
  unfold Dk.block
  split
  · rw [dkLen h]; exact Nat.le_refl _
  · exact Nat.zero_le _
structure Pn where
  dk : Dk
  key : List UInt8
  boot : Nat
  seq : Nat
def Pn.write (x : Pn) (n : Int) (plain : List UInt8) : Pn × Bool :=
  match sealO x.key x.boot x.seq plain x.dk.size with
  | some b => ({ x with seq := x.seq + 1, dk := x.dk.write n b }, true)
  | none => (x, false)
def Pn.readO (x : Pn) (n : Int) : Option (List UInt8) := (openL x.key (x.dk.block n)).map (·.1)
def Pn.read (x : Pn) (n : Int) : Pn := { x with dk := x.dk.read n }
def pnC (d : Nat) (x : Pn) : List V := [.ptr d 0] ++ By x.key ++ [.int .u32 x.boot, .int .u64 x.seq]
structure PnOk (x : Pn) : Prop where
  key : x.key.length = 32
  boot : x.boot < 2 ^ 32
  seq : x.seq ≤ 2 ^ 40
  size : x.dk.size ≤ 60000
  trace : x.dk.trace.length ≤ 2 ^ 40
def PnA (p d : Nat) (x : Pn) : Asn := cellA p (pnC d x) * DkA d x.dk
theorem pnC_length {d : Nat} {x : Pn} (h : x.key.length = 32) : (pnC d x).length = 35 := by simp [pnC, h]
theorem pnC_key {d : Nat} {x : Pn} (h : x.key.length = 32) {st : St} {p : Nat} (hc : st.cells p = some (pnC d x)) : st.ldv p 1 32 true = some (.agg (By x.key)) := by
  rw [ldvp hc (by rw [pnC_length h]; decide)]
  congr 2
  show (By x.key ++ [V.int .u32 x.boot, .int .u64 x.seq]).take 32 = _
  rw [List.take_left' (by simp [h])]
theorem pnC_33 {d : Nat} {x : Pn} (h : x.key.length = 32) : (pnC d x)[33]? = some (.int .u32 x.boot) := by
  rw [pnC, List.getElem?_append_right (by simp [h])]; simp [h]
theorem pnC_34 {d : Nat} {x : Pn} (h : x.key.length = 32) : (pnC d x)[34]? = some (.int .u64 x.seq) := by
  rw [pnC, List.getElem?_append_right (by simp [h])]; simp [h]
theorem repl_mid {a b c v : List V} {k : Nat} (hk : a.length = k) (hv : v.length = b.length) : repl (a ++ (b ++ c)) k v = a ++ (v ++ c) := by
  subst hk
  unfold repl
  rw [List.take_left' rfl, ← List.append_assoc a b c, List.drop_left' (by simp [hv])]
  simp
theorem PNew_spec (d : Nat) (key : List UInt8) (boot : Nat) (hk : key.length = 32) (st : St) : RCall Tryz.prog F_pen_New [.ptr d 0, .agg (By key), .int .u32 boot] st fun r s => ∃ p, r = .ret (.ptr p 0) ∧
    ∀ st0 I R, Now st0 I R st → Now st0 I (cellA p ([.ptr d 0] ++ By key ++ [.int .u32 boot, .int .u64 0]) * R) s := by
  refine w_pen_New ?_
  intro st4 h4
  have c4 : st4.cells st.next = some (By key) := by rw [h4]; exact cells_new _ _
  refine ⟨_, ldvg c4 (by simp [hk]), [.ptr d 0] ++ By key ++ [.int .u32 boot, .int .u64 0], ?_, ?_⟩
  · rw [fillV, if_pos ⟨rfl, rfl, by simp⟩, show ([V.nilp] ++ List.replicate 32 (V.int .u8 0) ++ [(V.int .u32 0), (V.int .u64 0)]) = [] ++ ([V.nilp] ++ (List.replicate 32 (V.int .u8 0) ++ [(V.int .u32 0), (V.int .u64 0)])) from rfl,
      repl_mid (a := []) (b := [V.nilp]) (k := 0) (v := (V.ptr d 0).cells) rfl rfl]
    rw [fillV, if_pos ⟨by simp [V.cells, hk], rfl, by simp [V.cells]⟩]
    rw [show ([] ++ ((V.ptr d 0).cells ++ (List.replicate 32 (V.int .u8 0) ++ [(V.int .u32 0), (V.int .u64 0)]))) = [V.ptr d 0] ++ (List.replicate 32 (V.int .u8 0) ++ [(V.int .u32 0), (V.int .u64 0)]) from rfl,
      repl_mid (a := [V.ptr d 0]) (b := List.replicate 32 (V.int .u8 0)) (k := 1) rfl (by simp [V.cells, hk])]
    rw [fillV, if_pos ⟨rfl, rfl, by simp [V.cells, hk]⟩]
    rw [show [V.ptr d 0] ++ ((V.agg (By key)).cells ++ [(V.int .u32 0), (V.int .u64 0)]) = ([V.ptr d 0] ++ By key) ++ ([V.int .u32 0] ++ [V.int .u64 0]) by simp [V.cells],
      repl_mid (b := [V.int .u32 0]) (k := 33) (v := (V.int .u32 boot).cells) (by simp [hk]) rfl]
    simp [fillV, V.cells]
  intro st7 h7
  refine ⟨_, rfl, fun st0 I R n => ?_⟩
  rw [h7]
  exact (n.le (by rw [h4]; exact (St.le.refl _).new _)).newC _
theorem PWrite_spec {p d : Nat} {x : Pn} (n : Int) (plain : List UInt8) (c : Cap) (ok : PnOk x) :
    Does Tryz.prog F_pen_Pen_Write [.ptr p 0, .int .i64 n, .lst 1 (By plain) c] (PnA p d x) fun r => pand (r = .ret (.bool (x.write n plain).2)) (PnA p d (x.write n plain).1) := by
  intro st I h
  obtain ⟨hk, hb, hs, hz, ht⟩ := ok
  have n0 := (Now.init h).emp.perm (B := cellA p (pnC d x) * (DkA d x.dk * emp)) (by simp only [PnA, sep_assoc])
  refine w_pen_Pen_Write ?_
  refine ⟨_, pnC_key hk n0.cells, _, ldv1 n0.cells (pnC_33 hk), _, ldv1 n0.cells (pnC_34 hk), _, ldv1 n0.cells rfl, ?_⟩
  refine Size_spec.ret (R := cellA p (pnC d x) * emp) (n0.perm (by ac_rfl)) ?_
  intro s9 n9'
  have n9 := n9'.perm (B := cellA p (pnC d x) * (DkA d x.dk * emp)) (by ac_rfl)
  refine ⟨_, rfl, pnC_key hk n9.cells, ldv1 n9.cells (pnC_33 hk), ldv1 n9.cells (pnC_34 hk), ?_⟩
  refine (Seal_spec x.key plain x.boot x.seq x.dk.size c hk hb (by omega) (by omega) s9).mono ?_
  intro r s12 hr
  unfold RetO at hr
  cases he : sealO x.key x.boot x.seq plain x.dk.size with
  | none =>
    rw [he] at hr
    obtain ⟨rfl, hle⟩ := hr
    refine ⟨_, _, _, rfl, fun _ => ?_, fun h => by cases h⟩
    have e : x.write n plain = (x, false) := by unfold Pn.write; rw [he]
    rw [e]
    have n12 := (n9.le hle).perm (B := PnA p d x * emp) (by simp only [PnA, sep_assoc])
    exact (Now.toPand rfl n12).unemp
  | some b =>
    rw [he] at hr
    obtain ⟨c13, rfl, ho⟩ := hr
    have e : x.write n plain = ({ x with seq := x.seq + 1, dk := x.dk.write n b }, true) := by unfold Pn.write; rw [he]
    rw [e]
    refine ⟨_, _, _, rfl, fun h => (by cases h), fun _ => ?_⟩
    have n12 := n9.le ho.le
    refine ⟨_, ldv1 n12.cells (pnC_34 hk), _, n12.cells, by rw [pnC_length hk]; decide, ?_⟩
    intro s17 h17
    have e2 : (pnC d x).set 34 (.int .u64 (IntKind.u64.wrap ((x.seq : Int) + 1))) = pnC d { x with seq := x.seq + 1, dk := x.dk.write n b } := by
      rw [pnC, List.set_append_right _ _ (by simp [hk]), wrap_u64 (by omega) (by omega)]
      simp [hk, pnC]
    rw [e2] at h17
    have n17 := n12.set (pnC d { x with seq := x.seq + 1, dk := x.dk.write n b })
    rw [← h17] at n17
    refine ⟨_, ldv1 n17.cells rfl, ?_⟩
    refine (Write_spec n b c13 hz ht).ret (R := cellA p (pnC d { x with seq := x.seq + 1, dk := x.dk.write n b }) * emp) (n17.perm (by ac_rfl)) ?_
    intro s20 n20
    refine ⟨rfl, ?_⟩
    have n21 := n20.perm (B := PnA p d { x with seq := x.seq + 1, dk := x.dk.write n b } * emp) (by simp only [PnA]; ac_rfl)
    exact (Now.toPand rfl n21).unemp
theorem PRead_spec {p d : Nat} {x : Pn} (n : Int) (ok : PnOk x) :
    Does Tryz.prog F_pen_Pen_Read [.ptr p 0, .int .i64 n] (PnA p d x) fun r => ex fun c => pand (r = retO (x.readO n) c) (PnA p d (x.read n)) := by
  intro st I h
  obtain ⟨hk, hb, hs, hz, ht⟩ := ok
  have n0 := (Now.init h).emp.perm (B := cellA p (pnC d x) * (DkA d x.dk * emp)) (by simp only [PnA, sep_assoc])
  refine w_pen_Pen_Read ?_
  refine ⟨_, pnC_key hk n0.cells, _, ldv1 n0.cells rfl, ?_⟩
  have n1 := n0.perm (B := DkA d x.dk * (cellA p (pnC d x) * emp)) (by ac_rfl)
  refine (Read_spec n hz ht).retEx n1 ?_
  intro c s6 n6
  have n6' := n6.perm (B := cellA p (pnC d x) * (DkA d (x.dk.read n) * emp)) (by ac_rfl)
  refine ⟨_, _, rfl, pnC_key hk n6'.cells, ?_⟩
  refine (Open_spec x.key (x.dk.block n) c hk (by have := dkLenB n1 n; omega) s6).mono ?_
  intro r s9 hr
  have ho : x.readO n = (openL x.key (x.dk.block n)).map (·.1) := rfl
  rw [ho]
  have fin : ∀ s', s6.le s' → ∀ c' : Cap, Now st I (PnA p d (x.read n)) s' := fun s' hl c' =>
    ((n6'.le hl).perm (B := PnA p d (x.read n) * emp) (by simp only [PnA, sep_assoc]; rfl)).unemp
  unfold OpenR at hr
  cases he : openL x.key (x.dk.block n) with
  | none =>
    rw [he] at hr
    obtain ⟨rfl, hle⟩ := hr
    exact ⟨_, _, _, _, _, rfl, (Now.toEx Cap.nil (Now.toPand rfl (fin _ hle .nil).emp)).unemp⟩
  | some q =>
    obtain ⟨q, b, t⟩ := q
    rw [he] at hr
    obtain ⟨c', rfl, hle⟩ := hr
    exact ⟨_, _, _, _, _, rfl, (Now.toEx c' (Now.toPand rfl (fin _ hle.le .nil).emp)).unemp⟩
end Go.Proofs.YtffenelcgjdbiaaGreatDoor
namespace Go.Proofs.YtffenelcgjdbiaaGreatDoor
open Go Go.Sim
set_option maxRecDepth 100000
def Plc (l : List (Bool × Bool)) : List V := l.flatMap fun p => [.bool p.1, .bool p.2]
theorem Plc_append (l m : List (Bool × Bool)) : Plc (l ++ m) = Plc l ++ Plc m := by simp [Plc]
theorem Plc_length (l : List (Bool × Bool)) : (Plc l).length = l.length * 2 := by
  induction l with
  | nil => rfl
  | cons p l ih => show ([V.bool p.1, .bool p.2] ++ Plc l).length = _; rw [List.length_append, ih, List.length_cons]; simp; omega
theorem Plc_take (l : List (Bool × Bool)) (k : Nat) : (Plc l).take (k * 2) = Plc (l.take k) := by
  induction l generalizing k with
  | nil => simp [Plc]
  | cons p l ih =>
    cases k with
    | zero => simp [Plc]
    | succ k =>
      show ([V.bool p.1, .bool p.2] ++ Plc l).take _ = [V.bool p.1, .bool p.2] ++ Plc (l.take k)
      rw [← ih, show (k + 1) * 2 = k * 2 + 2 by omega]; rfl
theorem Plc_drop (l : List (Bool × Bool)) (k : Nat) : (Plc l).drop (k * 2) = Plc (l.drop k) := by
  induction l generalizing k with
  | nil => simp [Plc]
  | cons p l ih =>
    cases k with
    | zero => simp
    | succ k =>
      show ([V.bool p.1, .bool p.2] ++ Plc l).drop _ = Plc (l.drop k)
      rw [← ih, show (k + 1) * 2 = k * 2 + 2 by omega]; rfl
theorem Plc_cut {l : List (Bool × Bool)} {k : Nat} (h : k < l.length) : Plc l = Plc (l.take k) ++ ([.bool l[k].1, .bool l[k].2] ++ Plc (l.drop (k + 1))) := by
  conv => lhs; rw [← List.take_append_drop k l, List.drop_eq_getElem_cons h, Plc_append]
  rfl
theorem Plc_set {l : List (Bool × Bool)} {k : Nat} (h : k < l.length) (p : Bool × Bool) : Plc (l.set k p) = Plc (l.take k) ++ ([.bool p.1, .bool p.2] ++ Plc (l.drop (k + 1))) := by
  rw [List.set_eq_take_append_cons_drop, if_pos h, Plc_append]; rfl
theorem Plc_at {l : List (Bool × Bool)} {k : Nat} (h : k < l.length) {st : St} {r : Nat} (hc : st.cells r = some (Plc l)) : st.ldv r (0 + k * 2) 2 true = some (.agg [.bool l[k].1, .bool l[k].2]) := by
  rw [Nat.zero_add, ldvp hc (by rw [Plc_length]; omega), Plc_drop, List.drop_eq_getElem_cons h]; rfl
theorem Plc_get {l : List (Bool × Bool)} {k : Nat} (h : k < l.length) : (Plc l)[k * 2]? = some (.bool l[k].1) ∧ (Plc l)[k * 2 + 1]? = some (.bool l[k].2) := by
  have e : (Plc (l.take k)).length = k * 2 := by rw [Plc_length, List.length_take]; omega
  rw [Plc_cut h]
  constructor
  · rw [List.getElem?_append_right (by omega), e, Nat.sub_self]; rfl
  · rw [List.getElem?_append_right (by omega), e, show k * 2 + 1 - k * 2 = 1 by omega]; rfl
theorem Mul_spec (n : Nat) (hn : n < 2 ^ 32) : Gives Tryz.prog F_math_bits_Mul [.int .u64 1, .int .u64 n] (.tup [.int .u64 0, .int .u64 n]) := by
  intro st
  refine w_math_bits_Mul (w_math_bits_Mul64 ?_)
  have e1 : iand .u64 1 4294967295 = 1 := by decide
  have e2 : iand .u64 (n : Int) 4294967295 = n := by
    rw [show (4294967295 : Int) = ((2 ^ 32 - 1 : Nat) : Int) from rfl, and_64 _ _ (by omega) (by decide), Nat.and_two_pow_sub_one_eq_mod, Nat.mod_eq_of_lt hn]
  have e3 : Int.fdiv (n : Int) (2 ^ 32) = 0 := by rw [fdiv_pow, Nat.div_eq_of_lt hn]; rfl
  have e4 : Int.fdiv (1 : Int) (2 ^ 32) = 0 := by decide
  rw [e1, e2, e3, e4, Int.one_mul, Int.mul_zero, Int.zero_mul, wu64 (n := (n : Int)) (by omega), e3]
  exact ⟨_, _, rfl, rfl, .refl st⟩
theorem flat_one (a b : Bool) (n : Nat) : (List.replicate n [V.bool a, .bool b]).flatten = Plc (List.replicate n (a, b)) := by
  induction n with
  | zero => rfl
  | succ n ih => rw [List.replicate_succ, List.flatten_cons, ih]; rfl
theorem flat_chunks_take (sz : Nat) (n m : Nat) (cs : List V) (h : m ≤ n) : flat ((chunks sz n cs).take m) = cs.take (m * sz) := by
  rw [← flat_chunks]
  congr 1
  induction m generalizing n cs with
  | zero => simp [chunks]
  | succ m ih =>
    cases n with
    | zero => omega
    | succ n => simp only [chunks, List.take_succ_cons]; rw [ih _ _ (by omega)]
theorem Repeat_spec (n : Nat) (h1 : 1 ≤ n) (hn : n ≤ 100000) (c : Cap) (st : St) :
    RCall Tryz.prog F_slices_Repeat_bank_place_bank_place [.lst 2 [.agg [.bool true, .bool false]] c, .int .i64 n] st fun r s => ∃ id, r = .ret (.ref 2 id 0 n n) ∧
      ∀ st0 I R, Now st0 I R st → Now st0 I (cellA id (Plc (List.replicate n (true, false))) * R) s := by
  refine w_slices_Repeat_bank_place_bank_place ?_
  refine br (fun h => by omega) fun _ => ?_
  rw [show (([V.agg [.bool true, .bool false]] : List V).length : Int) = 1 from rfl, wu64 (n := (1 : Int)) (by omega), wu64 (n := (n : Int)) (by omega)]
  refine (Mul_spec n (by omega) st).mono ?_
  rintro _ st3 ⟨rfl, hle⟩
  refine ⟨_, _, rfl, ?_⟩
  intro K hK
  refine br' (fun _ => ?_) fun h => by omega
  refine hK _ _ ?_
  refine br (fun h => by omega) fun _ => ?_
  rw [w64 (n := (n : Int)) (by omega)]
  refine ⟨n, n, rfl, rfl, Nat.le_refl _, by omega, ?_⟩
  rw [flat_one]
  intro st11 h11
  have c11 : st11.cells st3.next = some (Plc (List.replicate n (false, false))) := by rw [h11]; exact cells_new _ _
  refine ⟨_, _, elemsOf_lst _ _ _ _, c11, by rw [Plc_length, List.length_replicate]; simp; omega, ?_⟩
  have e1 : min ([V.agg [.bool true, .bool false]] : List V).length n = 1 := by simp; omega
  rw [e1]
  intro st14 h14
  have lem : ∀ k m : Nat, k + m ≤ n → repl (Plc (List.replicate k (true, false) ++ List.replicate (n - k) (false, false))) (k * 2) (Plc (List.replicate m (true, false))) = Plc (List.replicate (k + m) (true, false) ++ List.replicate (n - (k + m)) (false, false)) := by
    intro k m hkm
    have e0 : List.replicate (n - k) (false, false) = List.replicate m (false, false) ++ List.replicate (n - (k + m)) (false, false) := by rw [List.replicate_append_replicate]; congr 1; omega
    rw [e0, Plc_append, Plc_append, repl_mid (by rw [Plc_length, List.length_replicate]) (by rw [Plc_length, Plc_length]; simp), Plc_append, ← List.replicate_append_replicate (n := k) (m := m), Plc_append, List.append_assoc]
  have h14' : st14 = st11.setC st3.next (Plc (List.replicate 1 (true, false) ++ List.replicate (n - 1) (false, false))) := by
    rw [h14]; congr 1
    have := lem 0 1 (by omega)
    rw [show (0 : Nat) + 1 = 1 from rfl] at this
    rw [← this]; rfl
  clear h14
  refine ⟨fun m i s => ∃ k : Nat, i = k ∧ 1 ≤ k ∧ k ≤ n ∧ m = n - k ∧ s.cells st3.next = some (Plc (List.replicate k (true, false) ++ List.replicate (n - k) (false, false))) ∧
    ∀ st0 I R, Now st0 I R st → Now st0 I (cellA st3.next (Plc (List.replicate k (true, false) ++ List.replicate (n - k) (false, false))) * R) s,
    ⟨n - 1, 1, rfl, Nat.le_refl _, h1, rfl, by rw [h14']; exact cells_set c11, fun st0 I R h0 => ?_⟩, ?_⟩
  · rw [h14']
    refine Now.set (cs := Plc (List.replicate n (false, false))) ?_ _
    rw [h11]
    exact (h0.le hle).newC _
  rintro _ _ st18 ⟨k, rfl, hk1, hk, rfl, hc, hN⟩
  refine br (fun hlt => ?_) fun hge => ?_
  · refine ⟨k, rfl, by omega, k, rfl, by omega, chunks 2 k (Plc (List.replicate k (true, false) ++ List.replicate (n - k) (false, false))), _, ?_, hc, ?_, ?_⟩
    · simp only [elemsOf, if_true, hc, Option.bind_some, List.drop_zero]
      rw [if_pos (by rw [Plc_length]; simp; omega), if_neg (by decide)]
    · rw [if_neg (by omega), chunks_len, Plc_length]; simp; omega
    · intro st23 h23
      rw [chunks_len, if_neg (by omega), flat_chunks_take _ _ _ _ (by omega), Nat.zero_add] at h23
      have e2 : (Plc (List.replicate k (true, false) ++ List.replicate (n - k) (false, false))).take (min k (n - k) * 2) = Plc (List.replicate (min k (n - k)) (true, false)) := by
        rw [Plc_take, List.take_append_of_le_length (by simp; omega), List.take_replicate]
        congr 2; omega
      rw [e2, lem k _ (by omega)] at h23
      rw [chunks_len]
      refine ⟨n - (k + min k (n - k)), by omega, k + min k (n - k), by rw [w64 (by omega)]; omega, by omega, by omega, rfl, by rw [h23]; exact cells_set hc, fun st0 I R h0 => ?_⟩
      rw [h23]
      exact (hN st0 I R h0).set _
  · have hkn : k = n := by omega
    subst hkn
    rw [Nat.sub_self] at hN
    exact ⟨_, rfl, fun st0 I R h0 => (hN st0 I R h0).perm (by simp)⟩
theorem repl_two (a b c d : V) : repl [a, b] 0 [c, d] = [c, d] := rfl
structure Bk where
  pn : Pn
  base : Nat
  l : List (Bool × Bool)
def bkC (p : Nat) (x : Bk) (rid : Nat) : List V := [.ptr p 0, .int .i64 x.base, .ref 2 rid 0 x.l.length x.l.length]
def BkA (b p d : Nat) (x : Bk) : Asn := ex fun rid => cellA b (bkC p x rid) * (cellA rid (Plc x.l) * PnA p d x.pn)
structure BkOk (x : Bk) : Prop where
  pn : PnOk x.pn
  base : x.base ≤ 2 ^ 20
  long : x.l.length ≤ 100000
def Bk.blk (x : Bk) (k : Nat) (second : Bool) : Nat := x.base + 2 * k + (if second then 1 else 0)
def Bk.at' (x : Bk) (k : Nat) : Bool × Bool := x.l.getD k (false, false)
def Bk.cur (x : Bk) (k : Nat) : Nat := x.blk k ((x.at' k).1 != (x.at' k).2)
def Bk.readO (x : Bk) (k : Nat) : Option (List UInt8) := x.pn.readO (x.cur k)
def Bk.read (x : Bk) (k : Nat) : Bk := { x with pn := x.pn.read (x.cur k) }
def Bk.write (x : Bk) (k : Nat) (plain : List UInt8) : Bk × Bool :=
  let q := x.pn.write (x.blk k !(x.at' k).1) plain
  if q.2 then ({ x with pn := q.1, l := x.l.set k ((x.at' k).1, true) }, true) else ({ x with pn := q.1 }, false)
theorem bkOpen {st s : St} {I : Nat → Prop} {b p d : Nat} {x : Bk} {R : Asn} (h : Now st I (BkA b p d x * R) s) :
    ∃ rid, Now st I (cellA b (bkC p x rid) * (cellA rid (Plc x.l) * (PnA p d x.pn * R))) s := by
  obtain ⟨rid, n⟩ := h.ex
  exact ⟨rid, n.perm (by simp only [sep_assoc])⟩
theorem bkClose {st s : St} {I : Nat → Prop} {b p d : Nat} {x : Bk} {R : Asn} {rid : Nat} (h : Now st I (cellA b (bkC p x rid) * (cellA rid (Plc x.l) * (PnA p d x.pn * R))) s) : Now st I (BkA b p d x * R) s :=
  Now.toEx rid (h.perm (by simp only [sep_assoc]))
theorem BNew_spec (p base n : Nat) (h1 : 1 ≤ n) (hn : n ≤ 100000) (st : St) : RCall Tryz.prog F_bank_New [.ptr p 0, .int .i64 base, .int .i64 n] st fun r s => ∃ b, r = .ret (.ptr b 0) ∧
    ∀ st0 I d pn R, Now st0 I (PnA p d pn * R) st → Now st0 I (BkA b p d ⟨pn, base, List.replicate n (true, false)⟩ * R) s := by
  refine w_bank_New ?_
  rw [show min (max (n : Int) 0) 100000 = n by omega]
  refine (Repeat_spec n h1 hn _ st).mono ?_
  rintro _ s5 ⟨id, rfl, hN⟩
  refine ⟨_, _, _, _, rfl, ?_⟩
  intro st7 h7
  refine ⟨_, rfl, fun st0 I d pn R h0 => ?_⟩
  have n5 := (hN st0 I _ h0).newC [.ptr p 0, .int .i64 base, .ref 2 id 0 n n]
  rw [← h7] at n5
  refine bkClose (rid := id) (n5.perm ?_)
  unfold bkC
  rw [List.length_replicate]
theorem Bhas_spec {b p : Nat} {x : Bk} {rid : Nat} (k : Nat) (hk : k < x.l.length) {st : St} (hc : st.cells b = some (bkC p x rid)) :
    RCall Tryz.prog F_bank_Bank_has [.ptr b 0, .int .i64 k] st fun r s => r = .ret (.bool true) ∧ s = st := by
  refine w_bank_Bank_has ?_
  intro K hK
  refine br (fun _ => ⟨_, _, _, _, ldv1 hc rfl, hK _ _ ⟨?_, rfl⟩⟩) fun h => by omega
  congr 2; simp; omega
theorem Bblock_spec {b p : Nat} {x : Bk} {rid : Nat} (k : Nat) (hk : k < 100000) (hb : x.base ≤ 2 ^ 20) (second : Bool) {st : St} (hc : st.cells b = some (bkC p x rid)) :
    RCall Tryz.prog F_bank_Bank_block [.ptr b 0, .int .i64 k, .bool second] st fun r s => r = .ret (.int .i64 (x.blk k second)) ∧ s = st := by
  refine w_bank_Bank_block ?_
  rw [w64 (n := 2 * (k : Int)) (by omega)]
  refine brb (fun h => ⟨_, ldv1 hc rfl, ?_, rfl⟩) fun h => ⟨_, ldv1 hc rfl, ?_, rfl⟩
  · rw [w64 (n := (x.base : Int) + 2 * (k : Int)) (by omega), w64 (by omega)]
    simp only [Bk.blk, h, if_true]; congr 2
  · rw [w64 (by omega)]
    simp only [Bk.blk, h]; congr 2
theorem BRead_spec {b p d : Nat} {x : Bk} (k : Nat) (hk : k < x.l.length) (ok : BkOk x) :
    Does Tryz.prog F_bank_Bank_Read [.ptr b 0, .int .i64 k] (BkA b p d x) fun r => ex fun c => pand (r = retO (x.readO k) c) (BkA b p d (x.read k)) := by
  intro st I h
  obtain ⟨rid, n0⟩ := bkOpen (Now.init h).emp
  have hlong := ok.long
  refine w_bank_Bank_Read ?_
  refine (Bhas_spec k hk n0.cells).mono ?_
  rintro _ s4 ⟨rfl, rfl⟩
  refine ⟨_, rfl, fun h => (by cases h), fun _ => ?_⟩
  have n1 := n0.perm (B := cellA rid (Plc x.l) * (cellA b (bkC p x rid) * (PnA p d x.pn * emp))) (by ac_rfl)
  have hat : x.at' k = x.l[k] := by simp [Bk.at', hk]
  refine ⟨_, _, _, _, ldv1 n0.cells rfl, k, rfl, hk, _, _, Plc_at hk n1.cells, ?_⟩
  intro s10 h10
  have c10 : s10.cells s4.next = some [.bool false, .bool false] := by rw [h10]; exact cells_new _ _
  refine ⟨rfl, rfl, _, c10, by decide, ?_⟩
  intro s12 h12
  rw [repl_two] at h12
  have c12 : s12.cells s4.next = some [.bool x.l[k].1, .bool x.l[k].2] := by rw [h12]; exact cells_set c10
  have l12 : s4.le s12 := by rw [h12]; refine St.le.set ?_ (Nat.le_refl _) _; rw [h10]; exact (St.le.refl _).new _
  have n12 := n0.le l12
  refine ⟨_, ldv1 n12.cells rfl, _, ldv1 c12 rfl, _, ldv1 c12 rfl, ?_⟩
  refine (Bblock_spec k (by omega) ok.base _ n12.cells).mono ?_
  rintro _ s17 ⟨rfl, rfl⟩
  refine ⟨_, rfl, ldv1 n12.cells rfl, ?_⟩
  rw [← hat]
  refine (PRead_spec (x.cur k) ok.pn).retEx (R := cellA b (bkC p x rid) * (cellA rid (Plc x.l) * emp)) (n12.perm (by ac_rfl)) ?_
  intro c s20 n20
  refine ⟨_, _, _, rfl, ?_⟩
  have n21 := bkClose (x := x.read k) (rid := rid) (R := emp) (n20.perm (B := cellA b (bkC p x rid) * (cellA rid (Plc x.l) * (PnA p d (x.read k).pn * emp))) (by show PnA p d (x.read k).pn * _ = _; ac_rfl))
  exact (Now.toEx c (Now.toPand rfl n21)).unemp
theorem BWrite_spec {b p d : Nat} {x : Bk} (k : Nat) (hk : k < x.l.length) (ok : BkOk x) (plain : List UInt8) (c : Cap) :
    Does Tryz.prog F_bank_Bank_Write [.ptr b 0, .int .i64 k, .lst 1 (By plain) c] (BkA b p d x) fun r => pand (r = .ret (.bool (x.write k plain).2)) (BkA b p d (x.write k plain).1) := by
  intro st I h
  obtain ⟨rid, n0⟩ := bkOpen (Now.init h).emp
  have hlong := ok.long
  refine w_bank_Bank_Write ?_
  refine (Bhas_spec k hk n0.cells).mono ?_
  rintro _ s4 ⟨rfl, rfl⟩
  refine ⟨_, rfl, ?_⟩
  intro K hK
  refine ⟨fun _ => ?_, fun h => (by cases h)⟩
  have n1 := n0.perm (B := cellA rid (Plc x.l) * (cellA b (bkC p x rid) * (PnA p d x.pn * emp))) (by ac_rfl)
  have hat : x.at' k = x.l[k] := by simp [Bk.at', hk]
  refine ⟨_, ldv1 n0.cells rfl, _, _, _, _, ldv1 n0.cells rfl, k, rfl, hk, _, ldv1 n1.cells (by rw [Nat.zero_add]; exact (Plc_get hk).1), ?_⟩
  refine (Bblock_spec k (by omega) ok.base _ n0.cells).mono ?_
  rintro _ s12 ⟨rfl, rfl⟩
  refine ⟨_, rfl, ldv1 n0.cells rfl, ?_⟩
  rw [← hat]
  refine (PWrite_spec (x.blk k !(x.at' k).1) plain c ok.pn).ret (R := cellA b (bkC p x rid) * (cellA rid (Plc x.l) * emp)) (n0.perm (by ac_rfl)) ?_
  intro s15 n15
  refine ⟨_, rfl, ?_⟩
  refine hK _ _ ?_
  cases hw : (x.pn.write (x.blk k !(x.at' k).1) plain).2 with
  | false =>
    have e : x.write k plain = ({ x with pn := (x.pn.write (x.blk k !(x.at' k).1) plain).1 }, false) := by simp only [Bk.write, hw, Bool.false_eq_true, if_false]
    rw [e]
    refine ⟨fun _ => ?_, fun h => (by cases h)⟩
    exact (Now.toPand rfl (bkClose (rid := rid) (R := emp) (n15.perm (by show _ = cellA b (bkC p x rid) * _; ac_rfl)))).unemp
  | true =>
    have e : x.write k plain = ({ x with pn := (x.pn.write (x.blk k !(x.at' k).1) plain).1, l := x.l.set k ((x.at' k).1, true) }, true) := by simp only [Bk.write, hw, if_true]
    rw [e]
    refine ⟨fun h => (by cases h), fun _ => ?_⟩
    have n16 := n15.perm (B := cellA b (bkC p x rid) * (cellA rid (Plc x.l) * (PnA p d (x.pn.write (x.blk k !(x.at' k).1) plain).1 * emp))) (by ac_rfl)
    have n17 := n15.perm (B := cellA rid (Plc x.l) * (cellA b (bkC p x rid) * (PnA p d (x.pn.write (x.blk k !(x.at' k).1) plain).1 * emp))) (by ac_rfl)
    refine ⟨_, _, _, _, ldv1 n16.cells rfl, k, rfl, hk, _, n17.cells, by rw [Plc_length]; omega, ?_⟩
    intro s23 h23
    have e2 : (Plc x.l).set (0 + k * 2 + 1) (.bool true) = Plc (x.l.set k ((x.at' k).1, true)) := by
      rw [hat, Plc_set hk, Plc_cut hk, Nat.zero_add]
      have el : (Plc (x.l.take k)).length = k * 2 := by rw [Plc_length, List.length_take]; omega
      rw [List.set_append_right _ _ (by omega), el, show k * 2 + 1 - k * 2 = 1 by omega]; rfl
    rw [e2] at h23
    have n23 := n17.set (Plc (x.l.set k ((x.at' k).1, true)))
    rw [← h23] at n23
    refine (Now.toPand rfl (bkClose (rid := rid) (R := emp) (n23.perm ?_))).unemp
    unfold bkC
    rw [List.length_set]
    ac_rfl
end Go.Proofs.YtffenelcgjdbiaaGreatDoor
namespace Go.Proofs.YtffenelcgjdbiaaGreatDoor
open Go Go.Sim
set_option maxRecDepth 100000
def Prs (l : List (V × V)) : List V := l.flatMap fun p => [p.1, p.2]
theorem Prs_append (l m : List (V × V)) : Prs (l ++ m) = Prs l ++ Prs m := by simp [Prs]
theorem Prs_length (l : List (V × V)) : (Prs l).length = l.length * 2 := by
  induction l with
  | nil => rfl
  | cons p l ih => show ([p.1, p.2] ++ Prs l).length = _; rw [List.length_append, ih, List.length_cons]; simp; omega
theorem Prs_drop (l : List (V × V)) (k : Nat) : (Prs l).drop (k * 2) = Prs (l.drop k) := by
  induction l generalizing k with
  | nil => simp [Prs]
  | cons p l ih =>
    cases k with
    | zero => simp
    | succ k =>
      show ([p.1, p.2] ++ Prs l).drop _ = Prs (l.drop k)
      rw [← ih, show (k + 1) * 2 = k * 2 + 2 by omega]; rfl
theorem Prs_cut {l : List (V × V)} {k : Nat} (h : k < l.length) : Prs l = Prs (l.take k) ++ ([l[k].1, l[k].2] ++ Prs (l.drop (k + 1))) := by
  conv => lhs; rw [← List.take_append_drop k l, List.drop_eq_getElem_cons h, Prs_append]
  rfl
theorem Prs_set {l : List (V × V)} {k : Nat} (h : k < l.length) (p : V × V) : Prs (l.set k p) = Prs (l.take k) ++ ([p.1, p.2] ++ Prs (l.drop (k + 1))) := by
  rw [List.set_eq_take_append_cons_drop, if_pos h, Prs_append]; rfl
theorem Prs_repl {l : List (V × V)} {k : Nat} (h : k < l.length) (p : V × V) : repl (Prs l) (k * 2) [p.1, p.2] = Prs (l.set k p) := by
  rw [Prs_cut h, Prs_set h, repl_mid (b := [l[k].1, l[k].2]) (v := [p.1, p.2]) (by rw [Prs_length, List.length_take]; omega) rfl]
theorem Prs_at {l : List (V × V)} {k : Nat} (h : k < l.length) {st : St} {r : Nat} (hc : st.cells r = some (Prs l)) : st.ldv r (0 + k * 2) 2 true = some (.agg [l[k].1, l[k].2]) := by
  rw [Nat.zero_add, ldvp hc (by rw [Prs_length]; omega), Prs_drop, List.drop_eq_getElem_cons h]; rfl
theorem Prs_get {l : List (V × V)} {k : Nat} (h : k < l.length) : (Prs l)[k * 2]? = some l[k].1 ∧ (Prs l)[k * 2 + 1]? = some l[k].2 := by
  have e : (Prs (l.take k)).length = k * 2 := by rw [Prs_length, List.length_take]; omega
  rw [Prs_cut h]
  constructor
  · rw [List.getElem?_append_right (by omega), e, Nat.sub_self]; rfl
  · rw [List.getElem?_append_right (by omega), e, show k * 2 + 1 - k * 2 = 1 by omega]; rfl
abbrev Ps := List (Nat × Nat)
def pv (p : Nat × Nat) : V × V := (.int .i64 p.1, .int .u64 p.2)
def Psc (l : Ps) : List V := Prs (l.map pv)
def PsA (m : Nat) (l : Ps) : Asn := ex fun rid => cellA m [.ref 2 rid 0 l.length l.length] * cellA rid (Psc l)
theorem psOpen {st s : St} {I : Nat → Prop} {m : Nat} {l : Ps} {R : Asn} (h : Now st I (PsA m l * R) s) : ∃ rid, Now st I (cellA m [.ref 2 rid 0 l.length l.length] * (cellA rid (Psc l) * R)) s := by
  obtain ⟨rid, n⟩ := h.ex
  exact ⟨rid, n.perm (sep_assoc _ _ _)⟩
theorem psClose {st s : St} {I : Nat → Prop} {m : Nat} {l : Ps} {R : Asn} {rid : Nat} (h : Now st I (cellA m [.ref 2 rid 0 l.length l.length] * (cellA rid (Psc l) * R)) s) : Now st I (PsA m l * R) s :=
  Now.toEx rid (h.perm (sep_assoc _ _ _).symm)
def psHas (l : Ps) (id : Int) : Bool := decide (1 ≤ id ∧ id ≤ l.length)
def psAt (l : Ps) (id : Int) : Nat × Nat := l.getD (id - 1).toNat (0, 0)
def psGet (l : Ps) (id : Int) : Option (Nat × Nat) := if psHas l id = true ∧ (psAt l id).1 ≠ 0 then some ((psAt l id).1 - 1, (psAt l id).2) else none
def psSet (l : Ps) (id : Int) (leaf draw : Nat) : Ps := if psHas l id = true then l.set (id - 1).toNat (leaf + 1, draw) else l
def psClear (l : Ps) (id : Int) : Ps := if psHas l id = true then l.set (id - 1).toNat (0, 0) else l
def psState (l : Ps) : List UInt8 := l.flatMap fun p => putL p.1 4 ++ putL p.2 8
structure PsOk (l : Ps) : Prop where
  long : l.length ≤ 10000
  leaf : ∀ p ∈ l, p.1 ≤ 65536 ∧ p.2 < 2 ^ 64
theorem psHas_spec {m rid : Nat} {l : Ps} (id : Int) {st : St} (hc : st.cells m = some [.ref 2 rid 0 l.length l.length]) :
    RCall Tryz.prog F_posm_Map_has [.ptr m 0, .int .i64 id] st fun r s => r = .ret (.bool (psHas l id)) ∧ s = st := by
  refine w_posm_Map_has ?_
  intro K hK
  refine br (fun h => ⟨_, _, _, _, ldv1 hc rfl, hK _ _ ⟨?_, rfl⟩⟩) fun h => hK _ _ ⟨?_, rfl⟩
  · congr 2; simp [psHas]; omega
  · congr 2; simp [psHas]; omega
theorem PsNew_spec (n : Nat) (hn : n ≤ 10000) (st : St) : RCall Tryz.prog F_posm_New [.int .i64 n] st fun r s => ∃ m, r = .ret (.ptr m 0) ∧ ∀ st0 I R, Now st0 I R st → Now st0 I (PsA m (List.replicate n (0, 0)) * R) s := by
  refine w_posm_New ?_
  rw [show min (max (n : Int) 0) 10000 = n by omega]
  refine ⟨n, n, rfl, rfl, Nat.le_refl _, by omega, ?_⟩
  intro st4 h4 st5 h5
  refine ⟨_, rfl, fun st0 I R h0 => ?_⟩
  have e : (List.replicate n [V.int .i64 0, .int .u64 0]).flatten = Psc (List.replicate n (0, 0)) := by
    clear h4 h5
    induction n with
    | zero => rfl
    | succ n ih => rw [List.replicate_succ, List.flatten_cons, ih (by omega)]; rfl
  rw [e] at h4
  have n4 := h0.newC (Psc (List.replicate n (0, 0)))
  rw [← h4] at n4
  have n5 := n4.newC [.ref 2 st.next 0 n n]
  rw [← h5] at n5
  refine psClose (rid := st.next) (n5.perm ?_)
  rw [List.length_replicate]
theorem ps_idx {l : Ps} {id : Int} (h : psHas l id = true) : ∃ k : Nat, id = k + 1 ∧ k < l.length ∧ (id - 1).toNat = k := by
  have h2 : 1 ≤ id ∧ id ≤ l.length := by simpa [psHas] using h
  exact ⟨(id - 1).toNat, by omega, by omega, rfl⟩
theorem Psc_at {l : Ps} {k : Nat} (h : k < l.length) {st : St} {r : Nat} (hc : st.cells r = some (Psc l)) : st.ldv r (0 + k * 2) 2 true = some (.agg [.int .i64 l[k].1, .int .u64 l[k].2]) := by
  have := Prs_at (l := l.map pv) (k := k) (by simpa using h) hc
  rw [this, List.getElem_map]; rfl
theorem Psc_get {l : Ps} {k : Nat} (h : k < l.length) : (Psc l)[0 + k * 2 + 0]? = some (.int .i64 l[k].1) := by
  have := (Prs_get (l := l.map pv) (k := k) (by simpa using h)).1
  rw [Nat.zero_add, Nat.add_zero, Psc, this, List.getElem_map]; rfl
theorem Psc_length (l : Ps) : (Psc l).length = l.length * 2 := by rw [Psc, Prs_length, List.length_map]
theorem Psc_repl {l : Ps} {k : Nat} (h : k < l.length) (a b : Nat) : repl (Psc l) (0 + k * 2) [.int .i64 a, .int .u64 b] = Psc (l.set k (a, b)) := by
  have := Prs_repl (l := l.map pv) (k := k) (by simpa using h) (pv (a, b))
  rw [Nat.zero_add, Psc, Psc, List.map_set, ← this]; rfl
theorem repl_twoP (a b c d : V) : repl [a, b] 0 [c, d] = [c, d] := rfl
def posV (o : Option (Nat × Nat)) : Res := .ret (.tup [.agg [.int .i64 (o.getD (0, 0)).1, .int .u64 (o.getD (0, 0)).2], .bool o.isSome])
theorem PsGet_spec {m : Nat} {l : Ps} (id : Int) (ok : PsOk l) : Does Tryz.prog F_posm_Map_Get [.ptr m 0, .int .i64 id] (PsA m l) fun r => pand (r = posV (psGet l id)) (PsA m l) := by
  intro st I h
  obtain ⟨rid, n0⟩ := psOpen (Now.init h).emp
  refine w_posm_Map_Get ?_
  intro st3 h3
  have c3 : st3.cells st.next = some [.int .i64 0, .int .u64 0] := by rw [h3]; exact cells_new _ _
  have l3 : st.le st3 := by rw [h3]; exact (St.le.refl _).new _
  have n3 := n0.le l3
  have n3' := n3.perm (B := cellA rid (Psc l) * (cellA m [.ref 2 rid 0 l.length l.length] * emp)) (by ac_rfl)
  refine (psHas_spec id n3.cells).mono ?_
  rintro _ s5 ⟨rfl, rfl⟩
  refine ⟨_, rfl, ?_⟩
  intro K hK
  have no : psGet l id = none → K true s5 := by
    intro hn
    refine hK _ _ ⟨fun _ => ?_, fun h => (by cases h)⟩
    refine ⟨rfl, rfl, _, c3, by decide, ?_⟩
    rw [repl_twoP]
    intro s14 h14
    have c14 : s14.cells st.next = some [.int .i64 0, .int .u64 0] := by rw [h14]; exact cells_set c3
    have l14 : st.le s14 := by rw [h14]; exact l3.set (Nat.le_refl _) _
    refine ⟨_, _, ldvg c14 rfl, ?_⟩
    rw [hn]
    exact (Now.toPand rfl (psClose (n0.le l14))).unemp
  refine ⟨fun hh => ?_, fun hh => no ?_⟩
  · have hh : psHas l id = true := by simpa using hh
    obtain ⟨k, rfl, hk, hk2⟩ := ps_idx hh
    have hlong := ok.long
    have hw : IntKind.i64.wrap ((k : Int) + 1 - 1) = k := by rw [w64 (by omega)]; omega
    have hat : psAt l ((k : Int) + 1) = l[k] := by simp [psAt, hk]
    refine ⟨_, _, _, _, ldv1 n3.cells rfl, k, hw, hk, _, ldv1 n3'.cells (Psc_get hk), ?_⟩
    by_cases hz : l[k].1 = 0
    · rw [show (((l[k].1 : Nat) : Int) == 0) = true by simp [hz]]
      exact no (by rw [psGet, if_neg]; rw [hat]; intro h; exact h.2 hz)
    · rw [show (((l[k].1 : Nat) : Int) == 0) = false by simp [hz]]
      refine hK _ _ ⟨fun h => (by cases h), fun _ => ?_⟩
      refine ⟨_, _, _, _, ldv1 n3.cells rfl, k, hw, hk, _, _, Psc_at hk n3'.cells, ?_⟩
      intro s19 h19
      have c19 : s19.cells s5.next = some [.int .i64 0, .int .u64 0] := by rw [h19]; exact cells_new _ _
      refine ⟨rfl, rfl, _, c19, by decide, ?_⟩
      rw [repl_twoP]
      intro s21 h21
      have c21 : s21.cells s5.next = some [.int .i64 l[k].1, .int .u64 l[k].2] := by rw [h21]; exact cells_set c19
      refine ⟨_, ldv1 c21 rfl, _, c21, by simp, ?_⟩
      have hl := ok.leaf l[k] (List.getElem_mem hk)
      rw [w64 (n := ((l[k].1 : Nat) : Int) - 1) (by omega)]
      intro s24 h24
      have c24 : s24.cells s5.next = some [.int .i64 ((l[k].1 : Int) - 1), .int .u64 l[k].2] := by rw [h24]; exact cells_set c21
      refine ⟨_, _, ldvg c24 rfl, rfl, rfl, ?_⟩
      have l24 : s5.le s24 := by
        rw [h24]; refine St.le.set ?_ (Nat.le_refl _) _
        rw [h21]; refine St.le.set ?_ (Nat.le_refl _) _
        rw [h19]; exact (St.le.refl _).new _
      have d24 : s24.cells st.next = some [.int .i64 0, .int .u64 0] := l24.getC c3
      refine ⟨_, d24, by decide, ?_⟩
      rw [repl_twoP]
      intro s28 h28
      have c28 : s28.cells st.next = some [.int .i64 ((l[k].1 : Int) - 1), .int .u64 l[k].2] := by rw [h28]; exact cells_set d24
      refine ⟨_, _, ldvg c28 rfl, ?_⟩
      have e : psGet l ((k : Int) + 1) = some (l[k].1 - 1, l[k].2) := by rw [psGet, if_pos ⟨hh, by rw [hat]; exact hz⟩, hat]
      rw [e]
      have e2 : ((l[k].1 : Nat) : Int) - 1 = ((l[k].1 - 1 : Nat) : Int) := by omega
      rw [e2]
      refine (Now.toPand rfl (psClose (n0.le ?_))).unemp
      rw [h28]
      exact (l3.trans l24).set (Nat.le_refl _) _
  · rw [psGet, if_neg]
    intro h
    rw [h.1] at hh; cases hh
theorem PsSet_spec {m : Nat} {l : Ps} (id : Int) (leaf draw : Nat) (hl : l.length ≤ 10000) (hf : leaf ≤ 65535) :
    Does Tryz.prog F_posm_Map_Set [.ptr m 0, .int .i64 id, .agg [.int .i64 leaf, .int .u64 draw]] (PsA m l) fun r => pand (r = .ret (.bool (psHas l id))) (PsA m (psSet l id leaf draw)) := by
  intro st I h
  have nn := (Now.init h).emp
  obtain ⟨rid, n0⟩ := psOpen nn
  refine w_posm_Map_Set ?_
  intro st5 h5
  have c5 : st5.cells st.next = some [.int .i64 leaf, .int .u64 draw] := by rw [h5]; exact cells_new _ _
  have l5 : st.le st5 := by rw [h5]; exact (St.le.refl _).new _
  have n5 := n0.le l5
  refine (psHas_spec id n5.cells).mono ?_
  rintro _ s7 ⟨rfl, rfl⟩
  refine ⟨_, rfl, ?_⟩
  intro K hK
  cases hh : psHas l id with
  | false =>
    refine ⟨fun h => (by cases h), fun _ => ?_⟩
    refine hK _ _ fun K15 h15 => ⟨fun h => (by cases h), fun _ => h15 _ _ ⟨fun _ => ?_, fun h => (by cases h)⟩⟩
    rw [show psSet l id leaf draw = l by rw [psSet, if_neg (by rw [hh]; decide)]]
    exact (Now.toPand (by rw [hh]) (nn.le l5)).unemp
  | true =>
    refine ⟨fun _ => ?_, fun h => (by cases h)⟩
    refine ⟨_, ldv1 c5 rfl, ?_⟩
    rw [show decide ((leaf : Int) < 0) = false by simp]
    refine hK _ _ fun K15 h15 => ⟨fun _ => ⟨_, ldv1 c5 rfl, ?_⟩, fun h => (by cases h)⟩
    rw [show decide ((leaf : Int) > 65535) = false by simp; omega]
    refine h15 _ _ ⟨fun h => (by cases h), fun _ => ?_⟩
    obtain ⟨k, rfl, hk, hk2⟩ := ps_idx hh
    refine ⟨_, ldv1 c5 rfl, _, c5, by simp, ?_⟩
    rw [w64 (n := (leaf : Int) + 1) (by omega)]
    intro s19 h19
    have c19 : s19.cells st.next = some [.int .i64 ((leaf : Int) + 1), .int .u64 draw] := by rw [h19]; exact cells_set c5
    have l19 : st.le s19 := by rw [h19]; exact l5.set (Nat.le_refl _) _
    have n19 := n0.le l19
    have n19' := n19.perm (B := cellA rid (Psc l) * (cellA m [.ref 2 rid 0 l.length l.length] * emp)) (by ac_rfl)
    refine ⟨_, _, _, _, ldv1 n19.cells rfl, _, _, ldvg c19 rfl, k, by rw [w64 (by omega)]; omega, hk, rfl, rfl, _, n19'.cells, by rw [Psc_length]; omega, ?_⟩
    intro s25 h25
    rw [show (leaf : Int) + 1 = ((leaf + 1 : Nat) : Int) by omega, Psc_repl hk] at h25
    have n25 := n19'.set (Psc (l.set k (leaf + 1, draw)))
    rw [← h25] at n25
    rw [show psSet l ((k : Int) + 1) leaf draw = l.set k (leaf + 1, draw) by rw [psSet, if_pos hh, hk2]]
    refine (Now.toPand (by rw [hh]) (psClose (rid := rid) (n25.perm ?_))).unemp
    rw [List.length_set]
    ac_rfl
theorem PsClear_spec {m : Nat} {l : Ps} (id : Int) (hl : l.length ≤ 10000) :
    Does Tryz.prog F_posm_Map_Clear [.ptr m 0, .int .i64 id] (PsA m l) fun r => pand (r = .ret (.tup [])) (PsA m (psClear l id)) := by
  intro st I h
  have nn := (Now.init h).emp
  obtain ⟨rid, n0⟩ := psOpen nn
  refine w_posm_Map_Clear ?_
  refine (psHas_spec id n0.cells).mono ?_
  rintro _ s4 ⟨rfl, rfl⟩
  refine ⟨_, rfl, fun hh => ?_, fun hh => ?_⟩
  · obtain ⟨k, rfl, hk, hk2⟩ := ps_idx hh
    have n1 := n0.perm (B := cellA rid (Psc l) * (cellA m [.ref 2 rid 0 l.length l.length] * emp)) (by ac_rfl)
    refine ⟨_, _, _, _, ldv1 n0.cells rfl, k, by rw [w64 (by omega)]; omega, hk, rfl, rfl, _, n1.cells, by rw [Psc_length]; omega, ?_⟩
    intro s9 h9
    have e : repl (Psc l) (0 + k * 2) [.int .i64 0, .int .u64 0] = Psc (l.set k (0, 0)) := Psc_repl hk 0 0
    rw [e] at h9
    have n9 := n1.set (Psc (l.set k (0, 0)))
    rw [← h9] at n9
    rw [show psClear l ((k : Int) + 1) = l.set k (0, 0) by rw [psClear, if_pos hh, hk2]]
    refine (Now.toPand rfl (psClose (rid := rid) (n9.perm ?_))).unemp
    rw [List.length_set]
    ac_rfl
  · rw [show psClear l id = l by rw [psClear, if_neg (by rw [hh]; decide)]]
    exact (Now.toPand rfl nn).unemp
theorem psState_length (l : Ps) : (psState l).length = 12 * l.length := by
  induction l with
  | nil => rfl
  | cons p l ih => rw [psState, List.flatMap_cons, List.length_append]; rw [psState] at ih; rw [ih]; simp; omega
theorem psState_step {l : Ps} {k : Nat} (h : k < l.length) : psState (l.take (k + 1)) = psState (l.take k) ++ (putL l[k].1 4 ++ putL l[k].2 8) := by
  rw [psState, List.take_succ_eq_append_getElem h, List.flatMap_append, List.flatMap_cons, List.flatMap_nil, List.append_nil]; rfl
theorem PsState_spec {m : Nat} {l : Ps} (ok : PsOk l) : Does Tryz.prog F_posm_Map_State [.ptr m 0] (PsA m l) fun r => ex fun c => pand (r = .ret (.lst 1 (By (psState l)) c)) (PsA m l) := by
  intro st I h
  have nn := (Now.init h).emp
  obtain ⟨rid, n0⟩ := psOpen nn
  have hlong := ok.long
  refine w_posm_Map_State ?_
  refine ⟨_, _, _, _, ldv1 n0.cells rfl, ?_⟩
  refine ⟨fun n out c i s => ∃ k : Nat, i = k ∧ k ≤ l.length ∧ n = l.length - k ∧ out = By (psState (l.take k)) ∧ st.le s, ⟨l.length, 0, rfl, by omega, rfl, rfl, .refl st⟩, ?_⟩
  rintro _ _ c3 _ s7 ⟨k, rfl, hk, rfl, rfl, l7⟩
  refine br (fun hlt => ?_) fun hge => ?_
  · have hk' : k < l.length := by omega
    have n7 := (n0.le l7).perm (B := cellA rid (Psc l) * (cellA m [.ref 2 rid 0 l.length l.length] * emp)) (by ac_rfl)
    refine ⟨k, rfl, hk', _, _, Psc_at hk' n7.cells, ?_⟩
    intro s11 h11
    have c11 : s11.cells s7.next = some [.int .i64 0, .int .u64 0] := by rw [h11]; exact cells_new _ _
    refine ⟨rfl, rfl, _, c11, by decide, ?_⟩
    rw [repl_twoP]
    intro s13 h13
    have c13 : s13.cells s7.next = some [.int .i64 l[k].1, .int .u64 l[k].2] := by rw [h13]; exact cells_set c11
    have l13 : s7.le s13 := by rw [h13]; refine St.le.set ?_ (Nat.le_refl _) _; rw [h11]; exact (St.le.refl _).new _
    have ho := ok.leaf l[k] (List.getElem_mem hk')
    refine ⟨_, ldv1 c13 rfl, _, ldv1 c13 rfl, ?_⟩
    rw [wu64 (n := ((l[k].1 : Nat) : Int)) (by omega)]
    refine (Put_spec l[k].1 4 (by decide) s13).mono ?_
    rintro _ s17 ⟨c18, rfl, o17⟩
    refine ⟨_, _, rfl, ldv1 (o17.le.getC c13) rfl, ?_⟩
    refine (Put_spec l[k].2 8 (by decide) s17).mono ?_
    rintro _ s20 ⟨c21, rfl, o20⟩
    refine ⟨_, _, rfl, ?_⟩
    have hc := Concat_spec [(psState (l.take k), .unk), (putL l[k].1 4, .unk), (putL l[k].2 8, .unk)] .exact (by simp) (by simp) (by simp [psState_length]; omega) s20
    refine hc.mono ?_
    rintro _ s23 ⟨c24, rfl, o23⟩
    have e : (([(psState (l.take k), Cap.unk), (putL l[k].1 4, .unk), (putL l[k].2 8, .unk)] : List (List UInt8 × Cap)).map (·.1)).flatten = psState (l.take (k + 1)) := by
      rw [psState_step hk']; simp
    rw [e]
    exact ⟨_, _, rfl, l.length - (k + 1), by omega, k + 1, by rw [w64 (by omega)]; omega, by omega, rfl, rfl, ((l7.trans l13).trans o17.le).trans (o20.le.trans o23.le)⟩
  · rw [List.take_of_length_le (by omega)]
    exact (Now.toEx c3 (Now.toPand rfl (nn.le l7))).unemp
structure PsFull (l : Ps) : Prop where
  ok : PsOk l
  none : ∀ p ∈ l, p.1 = 0 → p.2 = 0
end Go.Proofs.YtffenelcgjdbiaaGreatDoor
namespace Go.Proofs.YtffenelcgjdbiaaGreatDoor
open Go Go.Sim
set_option maxRecDepth 100000
theorem Clone32_spec (l : List V) (c : Cap) (hl : l.length ≤ 2 ^ 40) (st : St) : RCall Tryz.prog F_slices_Clone_uint32_uint32 [.lst 1 l c] st fun r st' => ∃ c', r = .ret (.lst 1 l c') ∧ Own st st' c' := by
  refine w_slices_Clone_uint32_uint32 ?_
  intro b hb _
  refine brb (fun h => ⟨_, by rw [hb h], Own.nil (.refl st)⟩) fun _ => ?_
  have ho : Own st st .exact := Own.exact (.refl st)
  refine ⟨ho.has (by omega), fun c' st' ha => ⟨c', by rw [List.nil_append], ho.app ha⟩⟩
theorem Clone64_spec (l : List V) (c : Cap) (hl : l.length ≤ 2 ^ 40) (st : St) : RCall Tryz.prog F_slices_Clone_uint64_uint64 [.lst 1 l c] st fun r st' => ∃ c', r = .ret (.lst 1 l c') ∧ Own st st' c' := by
  refine w_slices_Clone_uint64_uint64 ?_
  intro b hb _
  refine brb (fun h => ⟨_, by rw [hb h], Own.nil (.refl st)⟩) fun _ => ?_
  have ho : Own st st .exact := Own.exact (.refl st)
  refine ⟨ho.has (by omega), fun c' st' ha => ⟨c', by rw [List.nil_append], ho.app ha⟩⟩
def U32s (l : List Nat) : List V := l.map fun (n : Nat) => V.int .u32 (n : Int)
def U64s (l : List Nat) : List V := l.map fun (n : Nat) => V.int .u64 (n : Int)
structure Src where
  tape : List Nat
  next : Nat
def srcC (x : Src) (c : Cap) : List V := [.lst 1 (U32s x.tape) c, .bool false] ++ List.replicate 32 (V.int .u8 0) ++ [.int .u64 x.next]
def SrcA (s : Nat) (x : Src) : Asn := ex fun c => cellA s (srcC x c)
structure SrcOk (x : Src) : Prop where
  next : x.next ≤ 2 ^ 40
  long : x.tape.length ≤ 2 ^ 40
  word : ∀ n ∈ x.tape, n < 2 ^ 32
def Src.word (x : Src) (n : Nat) : Nat := x.tape.getD n 0
def Src.draw (x : Src) (d : Nat) : Nat := x.word x.next % 2 ^ d
theorem srcC_34 (x : Src) (c : Cap) : (srcC x c)[34]? = some (.int .u64 x.next) := rfl
theorem Tape_spec (l : List Nat) (c : Cap) (hl : l.length ≤ 2 ^ 40) (st : St) : RCall Tryz.prog F_draw_Tape [.lst 1 (U32s l) c] st fun r s => ∃ m, r = .ret (.ptr m 0) ∧ ∀ st0 I R, Now st0 I R st → Now st0 I (SrcA m ⟨l, 0⟩ * R) s := by
  refine w_draw_Tape ?_
  refine (Clone32_spec (U32s l) c (by simpa [U32s] using hl) st).mono ?_
  rintro _ s3 ⟨c4, rfl, ho⟩
  refine ⟨_, _, rfl, ?_⟩
  intro s5 h5
  refine ⟨_, rfl, fun st0 I R h0 => ?_⟩
  rw [h5]
  exact Now.toEx c4 ((h0.le ho.le).newC _)
theorem sdraw_spec {s : Nat} {x : Src} {c : Cap} (n : Nat) (ok : SrcOk x) (hn : n ≤ 2 ^ 40) {st : St} (hc : st.cells s = some (srcC x c)) :
    RCall Tryz.prog F_draw_Source_draw [.ptr s 0, .int .u64 n] st fun r s => r = .ret (.int .u32 (x.word n)) ∧ s = st := by
  refine w_draw_Source_draw ?_
  refine ⟨_, ldv1 hc rfl, fun _ => ?_, fun h => (by cases h)⟩
  have hl : (U32s x.tape).length = x.tape.length := by simp [U32s]
  have hlong := ok.long
  refine ⟨_, _, ldv1 hc rfl, ?_⟩
  rw [hl, wu64 (by omega)]
  refine br (fun h => ?_) fun h => ?_
  · have h' : n < x.tape.length := by omega
    refine ⟨_, _, ldv1 hc rfl, n, rfl, (x.tape[n] : Int), by simp [U32s, h'], ?_, rfl⟩
    simp [Src.word, h']
  · have h' : x.tape.length ≤ n := by omega
    refine ⟨?_, rfl⟩
    simp [Src.word, List.getD_eq_getElem?_getD, List.getElem?_eq_none h']
theorem Next_spec {s : Nat} {x : Src} {d : Nat} (hd : d ≤ 16) (ok : SrcOk x) :
    Does Tryz.prog F_draw_Source_Next [.ptr s 0, .int .i64 (2 ^ d : Nat)] (SrcA s x) fun r => pand (r = .ret (.int .i64 (x.draw d))) (SrcA s ⟨x.tape, x.next + 1⟩) := by
  intro st I h
  obtain ⟨c, n0⟩ := (Now.init h).emp.ex
  obtain ⟨h1, h2⟩ := pow16 hd
  have hnx := ok.next
  refine w_draw_Source_Next ?_
  refine ⟨_, ldv1 n0.cells (srcC_34 x c), ?_⟩
  refine (sdraw_spec x.next ok hnx n0.cells).mono ?_
  rintro _ s5 ⟨rfl, rfl⟩
  refine ⟨_, rfl, _, ldv1 n0.cells (srcC_34 x c), _, n0.cells, by simp [srcC], ?_⟩
  rw [wu64 (n := (x.next : Int) + 1) (by omega)]
  intro s9 h9
  have e : (srcC x c).set 34 (.int .u64 ((x.next : Int) + 1)) = srcC ⟨x.tape, x.next + 1⟩ c := rfl
  rw [e] at h9
  have n9 := n0.set (srcC ⟨x.tape, x.next + 1⟩ c)
  rw [← h9] at n9
  refine (Leaves_spec hd s9).mono ?_
  rintro _ s11 ⟨rfl, l11⟩
  refine ⟨_, rfl, fun h => (by cases h), fun _ => ?_⟩
  have hw : x.word x.next < 2 ^ 32 := by
    unfold Src.word
    rw [List.getD_eq_getElem?_getD]
    cases hg : x.tape[x.next]? with
    | none => decide
    | some w => exact ok.word w (List.mem_of_getElem? hg)
  rw [w64 (n := ((x.word x.next : Nat) : Int)) (by omega), show ((2 ^ d : Nat) : Int) - 1 = ((2 ^ d - 1 : Nat) : Int) by omega, w64 (n := ((2 ^ d - 1 : Nat) : Int)) (by omega),
    and_i64 _ _ (by omega) (by omega), Nat.and_two_pow_sub_one_eq_mod]
  exact (Now.toPand rfl (Now.toEx c (n9.le l11))).unemp
theorem Used_spec {s : Nat} {x : Src} : Does Tryz.prog F_draw_Source_Used [.ptr s 0] (SrcA s x) fun r => pand (r = .ret (.int .u64 x.next)) (SrcA s x) := by
  intro st I h
  have nn := (Now.init h).emp
  obtain ⟨c, n0⟩ := nn.ex
  exact w_draw_Source_Used ⟨_, ldv1 n0.cells (srcC_34 x c), (Now.toPand rfl nn).unemp⟩
end Go.Proofs.YtffenelcgjdbiaaGreatDoor
namespace Go.Proofs.YtffenelcgjdbiaaGreatDoor
open Go Go.Sim
set_option maxRecDepth 100000
structure Cel where
  id : Nat
  leaf : Nat
  data : List UInt8
def Cel.cs (x : Cel) (c : Cap) : List V := [.int .i64 x.id, .int .i64 x.leaf, .lst 1 (By x.data) c]
def Cel.v (x : Cel) (c : Cap) : V := .agg (x.cs c)
def Cels (l : List Cel) : List V := l.map fun x => x.v .unk
theorem Cels_append (l m : List Cel) : Cels (l ++ m) = Cels l ++ Cels m := by simp [Cels]
@[simp] theorem Cels_length (l : List Cel) : (Cels l).length = l.length := by simp [Cels]
def celOk (x : Cel) (size : Nat) : Bool := decide (1 ≤ x.id ∧ x.id ≤ 2147483647 ∧ x.leaf ≤ 2147483647 ∧ x.data.length = size)
structure CelOk (x : Cel) (size : Nat) : Prop where
  id1 : 1 ≤ x.id
  id : x.id ≤ 2147483647
  leaf : x.leaf ≤ 2147483647
  long : x.data.length = size
theorem celOk_iff {x : Cel} {size : Nat} : celOk x size = true ↔ CelOk x size := by
  simp only [celOk, decide_eq_true_eq]
  exact ⟨fun ⟨a, b, c, d⟩ => ⟨a, b, c, d⟩, fun ⟨a, b, c, d⟩ => ⟨a, b, c, d⟩⟩
def bytesL (x : Cel) : List UInt8 := putL x.id 4 ++ putL x.leaf 4 ++ x.data
theorem bytesL_length (x : Cel) : (bytesL x).length = 8 + x.data.length := by simp [bytesL]; omega
def cellsL (l : List Cel) : List UInt8 := l.flatMap bytesL
theorem cellsL_length {l : List Cel} {size : Nat} (h : ∀ x ∈ l, CelOk x size) : (cellsL l).length = l.length * (8 + size) := by
  induction l with
  | nil => simp [cellsL]
  | cons x l ih =>
    rw [cellsL, List.flatMap_cons, List.length_append, bytesL_length, (h x (List.mem_cons_self ..)).long]
    have := ih fun y hy => h y (List.mem_cons_of_mem _ hy)
    rw [cellsL] at this
    rw [this, List.length_cons, Nat.add_mul, Nat.one_mul]; omega
def codeL (l : List Cel) (z size : Nat) : List UInt8 := cellsL l ++ List.replicate ((z - l.length) * (8 + size)) 0
theorem mul_le16 {z size : Nat} (hz : z ≤ 10000) (hs : size ≤ 60000) : z * (8 + size) ≤ 600080000 := Nat.le_trans (Nat.mul_le_mul hz (show 8 + size ≤ 60008 by omega)) (by decide)
theorem Long_spec (z size : Nat) (hz : z ≤ 10000) (hs : size ≤ 60000) (st : St) : RCall Tryz.prog F_buck_Long [.int .i64 z, .int .i64 size] st fun r s => r = .ret (.int .i64 (z * (8 + size) : Nat)) ∧ s = st := by
  refine w_buck_Long ?_
  have h := mul_le16 hz hs
  rw [w64 (n := 8 + (size : Int)) (by omega), show (z : Int) * (8 + (size : Int)) = ((z * (8 + size) : Nat) : Int) by push_cast; rfl]
  generalize z * (8 + size) = q at h
  rw [w64 (by omega)]
  exact ⟨rfl, rfl⟩
theorem may_spec (z size : Nat) (hz : z ≤ 16) (hs : size ≤ 60000) (st : St) : RCall Tryz.prog F_buck_may [.int .i64 z, .int .i64 size] st fun r s => r = .ret (.bool true) ∧ s = st := by
  refine w_buck_may ?_
  intro K hK
  refine br (fun _ => ?_) fun h => by omega
  rw [show decide ((z : Int) ≤ 16) = true by simp; omega]
  refine hK _ _ fun K7 h7 => ⟨fun _ => ?_, fun h => (by cases h)⟩
  rw [show decide ((size : Int) ≥ 0) = true by simp]
  refine h7 _ _ fun K10 h10 => ⟨fun _ => ?_, fun h => (by cases h)⟩
  rw [show decide ((size : Int) ≤ 60000) = true by simp; omega]
  exact h10 _ _ ⟨rfl, rfl⟩
theorem Ok_spec (x : Cel) (c : Cap) (size : Nat) : Gives Tryz.prog F_buck_Ok [x.v c, .int .i64 size] (.bool (celOk x size)) := by
  intro st
  refine w_buck_Ok ?_
  intro st5 h5
  have c5 : st5.cells st.next = some (x.cs c) := by rw [h5]; exact cells_new _ _
  have l5 : st.le st5 := by rw [h5]; exact (St.le.refl _).new _
  have fin : ∀ b : Bool, b = celOk x size → (Res.ret (V.bool b) = .ret (.bool (celOk x size)) ∧ st.le st5) := fun b h => ⟨by rw [h], l5⟩
  refine ⟨_, ldv1 c5 rfl, ?_⟩
  intro K9 h9
  refine br (fun e1 => ⟨_, ldv1 c5 rfl, ?_⟩) fun e1 => ?_
  · refine h9 _ _ fun K13 h13 => br (fun e2 => ⟨_, ldv1 c5 rfl, ?_⟩) fun e2 => ?_
    · refine h13 _ _ fun K17 h17 => br (fun e3 => ⟨_, ldv1 c5 rfl, ?_⟩) fun e3 => ?_
      · refine h17 _ _ fun K21 h21 => br (fun e4 => ⟨_, _, ldv1 c5 rfl, ?_⟩) fun e4 => ?_
        · refine h21 _ _ (fin _ ?_)
          rw [By_length, celOk]
          by_cases e : x.data.length = size
          · rw [decide_eq_true (show 1 ≤ x.id ∧ x.id ≤ 2147483647 ∧ x.leaf ≤ 2147483647 ∧ x.data.length = size by omega)]; simp [e]
          · rw [decide_eq_false (fun h : _ ∧ _ ∧ _ ∧ _ => e h.2.2.2)]; simp; omega
        · exact h21 _ _ (fin _ (by rw [celOk, decide_eq_false]; omega))
      · refine h17 _ _ fun K21 h21 => ⟨fun h => (by cases h), fun _ => h21 _ _ (fin _ (by rw [celOk, decide_eq_false]; omega))⟩
    · refine h13 _ _ fun K17 h17 => ⟨fun h => (by cases h), fun _ => h17 _ _ fun K21 h21 => ⟨fun h => (by cases h), fun _ => h21 _ _ (fin _ (by rw [celOk, decide_eq_false]; omega))⟩⟩
  · refine h9 _ _ fun K13 h13 => ⟨fun h => (by cases h), fun _ => h13 _ _ fun K17 h17 => ⟨fun h => (by cases h), fun _ => h17 _ _ fun K21 h21 => ⟨fun h => (by cases h), fun _ => h21 _ _ (fin _ (by rw [celOk, decide_eq_false]; omega))⟩⟩⟩
theorem Bytes_spec (x : Cel) (c : Cap) {size : Nat} (ok : CelOk x size) (hs : size ≤ 60000) (st : St) : RCall Tryz.prog F_buck_Bytes [x.v c] st fun r s => ∃ c', r = .ret (.lst 1 (By (bytesL x)) c') ∧ Own st s c' := by
  refine w_buck_Bytes ?_
  obtain ⟨h1, h2, h3, h4⟩ := ok
  intro st4 h4'
  have c4 : st4.cells st.next = some (x.cs c) := by rw [h4']; exact cells_new _ _
  have l4 : st.le st4 := by rw [h4']; exact (St.le.refl _).new _
  refine ⟨_, ldv1 c4 rfl, _, ldv1 c4 rfl, _, _, ldv1 c4 rfl, ?_⟩
  rw [wu64 (n := (x.id : Int)) (by omega), wu64 (n := (x.leaf : Int)) (by omega)]
  refine (Put_spec x.id 4 (by decide) st4).mono ?_
  rintro _ s9 ⟨c10, rfl, o9⟩
  have c9 := o9.le.getC c4
  refine ⟨_, _, rfl, ldv1 c9 rfl, ldv1 c9 rfl, ?_⟩
  refine (Put_spec x.leaf 4 (by decide) s9).mono ?_
  rintro _ s12 ⟨c13, rfl, o12⟩
  refine ⟨_, _, rfl, ldv1 (o12.le.getC c9) rfl, ?_⟩
  refine (Concat_spec [(putL x.id 4, .unk), (putL x.leaf 4, .unk), (x.data, .unk)] .exact (by simp) (by simp; omega) (by simp; omega) s12).mono ?_
  rintro _ s15 ⟨c16, rfl, o15⟩
  have e : (([(putL x.id 4, Cap.unk), (putL x.leaf 4, .unk), (x.data, .unk)] : List (List UInt8 × Cap)).map (·.1)).flatten = bytesL x := by simp [bytesL]
  rw [e]
  exact ⟨_, _, rfl, _, rfl, Own.trans ((l4.trans o9.le).trans o12.le) o15⟩
theorem Of_spec (x : Cel) (c : Cap) {size : Nat} (ok : CelOk x size) (hs : size ≤ 60000) (st : St) : RCall Tryz.prog F_buck_Of [.lst 1 (By (bytesL x)) c] st fun r s => ∃ c', r = .ret (x.v c') ∧ st.le s := by
  refine w_buck_Of ?_
  obtain ⟨h1, h2, h3, h4⟩ := ok
  intro st2 h2'
  have c2 : st2.cells st.next = some [.int .i64 0, .int .i64 0, .lst 1 [] .nil] := by rw [h2']; exact cells_new _ _
  have l2 : st.le st2 := by rw [h2']; exact (St.le.refl _).new _
  have hl : (By (bytesL x)).length = 8 + size := by rw [By_length, bytesL_length, h4]
  refine ⟨4, rfl, by omega, 4, 8, rfl, rfl, by decide, by omega, 8, rfl, by omega, ?_⟩
  have e1 : (By (bytesL x)).take 4 = By (putL x.id 4) := by rw [By_take, bytesL, List.append_assoc, List.take_left' (by simp)]
  have e2 : ((By (bytesL x)).take 8).drop 4 = By (putL x.leaf 4) := by rw [By_take, By_drop, bytesL, List.take_left' (by simp), List.drop_left' (by simp)]
  have e3 : (By (bytesL x)).drop 8 = By x.data := by rw [By_drop, bytesL, List.drop_left' (by simp)]
  rw [e1, e2, e3]
  refine (Get_spec (putL x.id 4) _ (by simp) st2).mono ?_
  rintro _ s8 ⟨rfl, l8⟩
  refine ⟨_, rfl, ?_⟩
  refine (Get_spec (putL x.leaf 4) _ (by simp) s8).mono ?_
  rintro _ s11 ⟨rfl, l11⟩
  refine ⟨_, rfl, ?_⟩
  refine (Clone_spec (By x.data) _ (by rw [By_length]; omega) s11).mono ?_
  rintro _ s14 ⟨c15, rfl, o14⟩
  refine ⟨_, _, rfl, rfl, rfl, _, o14.le.getC (l11.getC (l8.getC c2)), by decide, ?_⟩
  rw [get_putL _ _ (by omega), get_putL _ _ (by omega), w64 (n := (x.id : Int)) (by omega), w64 (n := (x.leaf : Int)) (by omega)]
  intro s17 h17
  have c17 : s17.cells st.next = some (x.cs c15) := by rw [h17]; exact cells_set (o14.le.getC (l11.getC (l8.getC c2)))
  refine ⟨_, _, _, _, ldvg c17 rfl, c15, rfl, ?_⟩
  rw [h17]
  exact (((l2.trans l8).trans l11).trans o14.le).set (Nat.le_refl _) _
theorem Cels_get {l : List Cel} {k : Nat} (h : k < l.length) : (Cels l)[k]? = some (l[k].v .unk) := by simp [Cels, h]
theorem cellsL_step {l : List Cel} {k : Nat} (h : k < l.length) : cellsL (l.take (k + 1)) = cellsL (l.take k) ++ bytesL l[k] := by
  rw [cellsL, List.take_succ_eq_append_getElem h, List.flatMap_append, List.flatMap_cons, List.flatMap_nil, List.append_nil]; rfl
theorem repl_three (a b c d e f : V) : repl [a, b, c] 0 [d, e, f] = [d, e, f] := rfl
theorem Code_spec {l : List Cel} (c : Cap) {z size : Nat} (hz : z ≤ 16) (hs : size ≤ 60000) (hl : l.length ≤ z) (ok : ∀ x ∈ l, CelOk x size) (st : St) :
    RCall Tryz.prog F_buck_Code [.lst 3 (Cels l) c, .int .i64 z, .int .i64 size] st fun r s => ∃ c', r = .ret (.tup [.lst 1 (By (codeL l z size)) c', .bool true]) ∧ Own st s c' := by
  refine w_buck_Code ?_
  refine (may_spec z size hz hs st).mono ?_
  rintro _ s5 ⟨rfl, rfl⟩
  refine ⟨_, rfl, ?_⟩
  intro K hK
  refine ⟨fun _ => ?_, fun h => (by cases h)⟩
  rw [Cels_length, show decide ((l.length : Int) > (z : Int)) = false by simp; omega]
  refine hK _ _ ⟨fun h => (by cases h), fun _ => ?_⟩
  refine (Long_spec z size (by omega) hs s5).mono ?_
  rintro _ s11 ⟨rfl, rfl⟩
  have hL := mul_le16 (z := z) (by omega) hs
  have hkz : ∀ k, k ≤ z → k * (8 + size) ≤ z * (8 + size) := fun k h => Nat.mul_le_mul_right _ h
  have hk1 : ∀ k, (k + 1) * (8 + size) = k * (8 + size) + (8 + size) := fun k => by rw [Nat.add_mul, Nat.one_mul]
  have hcl : ∀ k, k ≤ l.length → (cellsL (l.take k)).length = k * (8 + size) := fun k hk => by
    rw [cellsL_length fun x hx => ok x (List.mem_of_mem_take hx), List.length_take, Nat.min_eq_left hk]
  have hcode : codeL l z size = cellsL l ++ List.replicate (z * (8 + size) - l.length * (8 + size)) 0 := by rw [codeL, Nat.sub_mul]
  rw [hcode]
  generalize hq : z * (8 + size) = L at hL hkz
  refine ⟨_, rfl, 0, L, rfl, rfl, Nat.zero_le _, by omega, ?_⟩
  rw [zeros_flat]
  intro st15 h15
  have c15 : st15.cells s11.next = some (By (List.replicate L 0)) := by rw [h15]; exact cells_new _ _
  have l15 : s11.le st15 := by rw [h15]; exact (St.le.refl _).new _
  refine ⟨fun n out o len cap i s => ∃ k : Nat, i = k ∧ k ≤ l.length ∧ n = l.length - k ∧ out = s11.next ∧ o = 0 ∧ L = cap ∧ len = k * (8 + size) ∧ s.cells s11.next = some (By (cellsL (l.take k) ++ List.replicate (L - k * (8 + size)) 0)) ∧ s11.le s,
    ⟨l.length, 0, rfl, by omega, rfl, rfl, rfl, rfl, by rw [Nat.zero_mul], by rw [Nat.zero_mul]; exact c15, l15⟩, ?_⟩
  rintro _ _ _ _ _ _ s20 ⟨k, rfl, hk, rfl, rfl, rfl, rfl, rfl, c20, l20⟩
  rw [Cels_length]
  refine br (fun hlt => ?_) fun hge => ?_
  · have hk' : k < l.length := by omega
    have ho := ok l[k] (List.getElem_mem hk')
    refine ⟨k, rfl, _, _, _, _, Cels_get hk', ?_⟩
    intro s25 h25
    have c25 : s25.cells s20.next = some [.int .i64 0, .int .i64 0, .lst 1 [] .nil] := by rw [h25]; exact cells_new _ _
    refine ⟨rfl, rfl, _, c25, by decide, ?_⟩
    rw [repl_three]
    intro s27 h27
    have c27 : s27.cells s20.next = some (l[k].cs .unk) := by rw [h27]; exact cells_set c25
    have l27 : s20.le s27 := by rw [h27]; refine St.le.set ?_ (Nat.le_refl _) _; rw [h25]; exact (St.le.refl _).new _
    refine ⟨_, _, _, _, ldvg c27 rfl, ?_⟩
    refine (Ok_spec l[k] .unk size s27).mono ?_
    rintro _ s32 ⟨rfl, l32⟩
    rw [celOk_iff.2 ho]
    refine ⟨_, rfl, fun h => (by cases h), fun _ => ⟨_, _, _, _, ldvg (l32.getC c27) rfl, ?_⟩⟩
    refine (Bytes_spec l[k] .unk ho hs s32).mono ?_
    rintro _ s38 ⟨c39, rfl, o38⟩
    have l38 := (l27.trans l32).trans o38.le
    have hb : (bytesL l[k]).length = 8 + size := by rw [bytesL_length, ho.long]
    have := hkz (k + 1) (by omega)
    have := hk1 k
    refine ⟨_, _, rfl, _, _, elemsOf_lst _ _ _ _, l38.getC c20, by rw [By_length, hb]; omega, by rw [By_length, List.length_append, hcl k hk, List.length_replicate]; omega, ?_⟩
    intro s42 h42
    have e : repl (By (cellsL (l.take k) ++ List.replicate (L - k * (8 + size)) 0)) (0 + k * (8 + size) * 1) (flat (By (bytesL l[k]))) = By (cellsL (l.take (k + 1)) ++ List.replicate (L - (k + 1) * (8 + size)) 0) := by
      rw [show L - k * (8 + size) = (8 + size) + (L - (k + 1) * (8 + size)) by omega, ← List.replicate_append_replicate, By_append, By_append, By_flat,
        repl_mid (by rw [By_length, hcl k hk]; omega) (by rw [By_length, By_length, hb, List.length_replicate]), cellsL_step hk', By_append, By_append, List.append_assoc]
    rw [e] at h42
    refine ⟨l.length - (k + 1), by omega, k + 1, by rw [w64 (by omega)]; omega, by omega, rfl, rfl, rfl, rfl, by rw [By_length, hb, hk1], by rw [h42]; exact cells_set (l38.getC c20), ?_⟩
    rw [h42]
    exact (l20.trans l38).set (Nat.le_refl _) _
  · have hkk : k = l.length := by omega
    subst hkk
    refine (Long_spec z size (by omega) hs s20).mono ?_
    rintro _ s45 ⟨rfl, rfl⟩
    rw [hq]
    rw [List.take_length] at c20
    have := hkz l.length hl
    have hlen : (cellsL l ++ List.replicate (L - l.length * (8 + size)) 0).length = L := by
      have := hcl l.length (Nat.le_refl _)
      rw [List.take_length] at this
      rw [List.length_append, this, List.length_replicate]; omega
    have hf := frz_By (l := cellsL l ++ List.replicate (L - l.length * (8 + size)) 0) (sp := []) (cap := L) (by rw [hlen]; rfl)
    rw [hlen, List.append_nil] at hf
    refine ⟨_, rfl, L, rfl, Nat.le_refl _, _, _, c20, hf, ?_⟩
    rintro s50 rfl
    exact ⟨_, rfl, Own.frz l20 (Nat.le_refl _)⟩
theorem getL_zero {l : List UInt8} (h : l.all (· == 0) = true) : getL l = 0 := by
  induction l with
  | nil => rfl
  | cons a l ih =>
    simp only [List.all_cons, Bool.and_eq_true, beq_iff_eq] at h
    simp only [getL, ih h.2, h.1]; rfl
theorem bytesL_nz {x : Cel} {size : Nat} (ok : CelOk x size) (r : List UInt8) : (bytesL x ++ r).all (· == 0) = false := by
  rw [Bool.eq_false_iff]
  intro h
  rw [bytesL, List.append_assoc, List.append_assoc, List.all_append, Bool.and_eq_true] at h
  have := getL_zero h.1
  rw [get_putL _ _ (by have := ok.id; omega)] at this
  have := ok.id1
  omega
def restL (l : List Cel) (k z size : Nat) : List UInt8 := cellsL (l.drop k) ++ List.replicate ((z - l.length) * (8 + size)) 0
theorem restL_step {l : List Cel} {k : Nat} (z size : Nat) (h : k < l.length) : restL l k z size = bytesL l[k] ++ restL l (k + 1) z size := by
  rw [restL, List.drop_eq_getElem_cons h, cellsL, List.flatMap_cons, List.append_assoc]; rfl
theorem codeL_length {l : List Cel} {z size : Nat} (hl : l.length ≤ z) (ok : ∀ x ∈ l, CelOk x size) : (codeL l z size).length = z * (8 + size) := by
  rw [codeL, List.length_append, cellsL_length ok, List.length_replicate, ← Nat.add_mul]
  congr 1; omega
theorem Parse_spec {l : List Cel} (c : Cap) {z size : Nat} (hz : z ≤ 16) (hs : size ≤ 60000) (hl : l.length ≤ z) (ok : ∀ x ∈ l, CelOk x size) (st : St) :
    RCall Tryz.prog F_buck_Parse [.lst 1 (By (codeL l z size)) c, .int .i64 z, .int .i64 size] st fun r s => ∃ c', r = .ret (.tup [.lst 3 (Cels l) c', .bool true]) ∧ st.le s := by
  refine w_buck_Parse ?_
  refine (may_spec z size hz hs st).mono ?_
  rintro _ s5 ⟨rfl, rfl⟩
  refine ⟨_, rfl, ?_⟩
  intro K hK
  refine ⟨fun _ => ?_, fun h => (by cases h)⟩
  refine (Long_spec z size (by omega) hs s5).mono ?_
  rintro _ s8 ⟨rfl, rfl⟩
  refine ⟨_, rfl, ?_⟩
  have hL := mul_le16 (z := z) (by omega) hs
  have hlen := codeL_length hl ok
  have hrest : ∀ k, (restL l k z size).length ≤ 600080000 := fun k => by
    have e : codeL l z size = cellsL (l.take k) ++ restL l k z size := by
      rw [restL, ← List.append_assoc, cellsL, cellsL, ← List.flatMap_append, List.take_append_drop]; rfl
    have := congrArg List.length e
    rw [List.length_append, hlen] at this
    omega
  rw [By_length, hlen, show (((z * (8 + size) : Nat) : Int) != ((z * (8 + size) : Nat) : Int)) = false by simp]
  refine hK _ _ ⟨fun h => (by cases h), fun _ => ?_⟩
  refine ⟨fun n b cb out co s => ∃ k : Nat, k ≤ l.length ∧ n = l.length - k ∧ b = By (restL l k z size) ∧ out = Cels (l.take k) ∧ Own s8 s co, ⟨l.length, 0, by omega, rfl, rfl, rfl, Own.nil (.refl _)⟩, ?_⟩
  rintro _ _ c13 _ c14 s17 ⟨k, hk, rfl, rfl, rfl, o17⟩
  intro K22 h22
  rw [By_length]
  by_cases hk' : k < l.length
  · have ho := ok l[k] (List.getElem_mem hk')
    have hb : (bytesL l[k]).length = 8 + size := by rw [bytesL_length, ho.long]
    have hr := restL_step z size hk'
    have hrl : (restL l k z size).length = 8 + size + (restL l (k + 1) z size).length := by rw [hr, List.length_append, hb]
    have h0 := hrest k
    refine br (fun _ => ?_) fun h => by omega
    refine (Zero_spec (restL l k z size) c13 (by omega) s17).mono ?_
    rintro _ s19 ⟨rfl, l19⟩
    refine ⟨_, rfl, ?_⟩
    rw [show (restL l k z size).all (· == 0) = false by rw [hr]; exact bytesL_nz ho _]
    refine h22 _ _ ⟨fun _ => ?_, fun h => (by cases h)⟩
    refine ⟨8 + size, by rw [w64 (by omega)]; omega, by rw [By_length]; omega, ?_⟩
    have e1 : (By (restL l k z size)).take (8 + size) = By (bytesL l[k]) := by rw [By_take, hr, List.take_left' hb]
    rw [e1]
    refine (Of_spec l[k] _ ho hs s19).mono ?_
    rintro _ s26 ⟨c29, rfl, l26⟩
    refine ⟨_, _, _, _, rfl, ?_⟩
    intro s30 h30
    have c30 : s30.cells s26.next = some [.int .i64 0, .int .i64 0, .lst 1 [] .nil] := by rw [h30]; exact cells_new _ _
    refine ⟨rfl, rfl, _, c30, by decide, ?_⟩
    rw [repl_three]
    intro s32 h32
    have c32 : s32.cells s26.next = some (l[k].cs c29) := by rw [h32]; exact cells_set c30
    have l32 : s26.le s32 := by rw [h32]; refine St.le.set ?_ (Nat.le_refl _) _; rw [h30]; exact (St.le.refl _).new _
    refine ⟨_, _, _, _, ldvg c32 rfl, ?_⟩
    refine (Ok_spec l[k] c29 size s32).mono ?_
    rintro _ s37 ⟨rfl, l37⟩
    rw [celOk_iff.2 ho]
    have o37 := o17.step (((l19.trans l26).trans l32).trans l37)
    refine ⟨_, rfl, fun h => (by cases h), fun _ => ⟨_, _, _, _, ldvg (l37.getC c32) rfl, o37.has (by rw [Cels_length, List.length_take]; omega), ?_⟩⟩
    intro c42 s43 ha
    refine ⟨8 + size, by rw [w64 (by omega)]; omega, by rw [By_length]; omega, l.length - (k + 1), by omega, k + 1, by omega, rfl, ?_, ?_, o37.app ha⟩
    · rw [By_drop, hr, List.drop_left' hb]
    · rw [List.take_succ_eq_append_getElem hk', Cels_append]; rfl
  · have hkk : k = l.length := by omega
    subst hkk
    have hz0 : restL l l.length z size = List.replicate ((z - l.length) * (8 + size)) 0 := by rw [restL, List.drop_length]; rfl
    have fin : ∀ s, s17.le s → K22 false s := fun s hle => h22 _ _ ⟨fun h => (by cases h), fun _ => ⟨c14, by rw [List.take_length], o17.le.trans hle⟩⟩
    have h0 := hrest l.length
    refine br (fun _ => ?_) fun h => fin _ (.refl _)
    refine (Zero_spec (restL l l.length z size) c13 (by omega) s17).mono ?_
    rintro _ s19 ⟨rfl, l19⟩
    refine ⟨_, rfl, ?_⟩
    rw [show (restL l l.length z size).all (· == 0) = true by rw [hz0]; simp]
    exact fin _ l19
end Go.Proofs.YtffenelcgjdbiaaGreatDoor
namespace Go.Proofs.YtffenelcgjdbiaaGreatDoor
open Go Go.Sim
set_option maxRecDepth 100000
structure Sta where
  most : Nat
  size : Nat
  l : List Cel
def Celm (l : List Cel) : List (V × V) := l.map fun x => (.int .i64 x.id, x.v .unk)
def stC (x : Sta) (m : Nat) : List V := [.int .i64 x.most, .int .i64 x.size, .map m]
def StaA (s : Nat) (x : Sta) : Asn := ex fun m => cellA s (stC x m) * mapA m (Celm x.l)
theorem stOpen {st s : St} {I : Nat → Prop} {p : Nat} {x : Sta} {R : Asn} (h : Now st I (StaA p x * R) s) : ∃ m, Now st I (cellA p (stC x m) * (mapA m (Celm x.l) * R)) s := by
  obtain ⟨m, n⟩ := h.ex
  exact ⟨m, n.perm (sep_assoc _ _ _)⟩
theorem stClose {st s : St} {I : Nat → Prop} {p : Nat} {x : Sta} {R : Asn} {m : Nat} (h : Now st I (cellA p (stC x m) * (mapA m (Celm x.l) * R)) s) : Now st I (StaA p x * R) s :=
  Now.toEx m (h.perm (sep_assoc _ _ _).symm)
def look (l : List Cel) (id : Int) : Option Cel := l.find? fun x => decide ((x.id : Int) = id)
def putC : List Cel → Cel → List Cel
  | [], c => [c]
  | x :: r, c => if c.id = x.id then c :: r else x :: putC r c
def delC : List Cel → Int → List Cel
  | [], _ => []
  | x :: r, id => if id = x.id then r else x :: delC r id
def zeroC : Cel := ⟨0, 0, []⟩
def celOr (l : List Cel) (id : Int) : Cel := (look l id).getD zeroC
theorem lookM_cel (l : List Cel) (id : Int) : lookM (Celm l) .i64 id = some ((look l id).map fun x => x.v .unk) := by
  induction l with
  | nil => rfl
  | cons x r ih =>
    show (if IntKind.i64 = IntKind.i64 then (if id = (x.id : Int) then some (some (x.v .unk)) else lookM (Celm r) .i64 id) else none) = _
    rw [if_pos rfl, look, List.find?_cons]
    by_cases h : id = (x.id : Int)
    · rw [if_pos h, decide_eq_true h.symm]; rfl
    · rw [if_neg h, decide_eq_false (fun e => h e.symm), ih]; rfl
theorem updM_cel (l : List Cel) (c : Cel) : updM (Celm l) .i64 (c.id : Int) (c.v .unk) = Celm (putC l c) := by
  induction l with
  | nil => rfl
  | cons x r ih =>
    show (if (c.id : Int) = (x.id : Int) then (V.int .i64 c.id, c.v .unk) :: Celm r else (V.int .i64 x.id, x.v .unk) :: updM (Celm r) .i64 c.id (c.v .unk)) = _
    by_cases h : c.id = x.id
    · rw [if_pos (by omega), putC, if_pos h]; rfl
    · rw [if_neg (by omega), putC, if_neg h, ih]; rfl
theorem delM_cel (l : List Cel) (id : Int) : delM (Celm l) id = Celm (delC l id) := by
  induction l with
  | nil => rfl
  | cons x r ih =>
    show (if id = (x.id : Int) then Celm r else (V.int .i64 x.id, x.v .unk) :: delM (Celm r) id) = _
    by_cases h : id = x.id
    · rw [if_pos h, delC, if_pos h]
    · rw [if_neg h, delC, if_neg h, ih]; rfl
theorem mlook_cel {st : St} {m : Nat} {l : List Cel} (h : st.maps m = some (Celm l)) (id : Int) : ∃ c, st.mlook m .i64 id (zeroC.v .nil) = some ((celOr l id).v c, (look l id).isSome) := by
  unfold St.mlook celOr
  rw [h]
  simp only [Option.bind_some, lookM_cel, Option.map_some]
  cases look l id with
  | none => exact ⟨.nil, rfl⟩
  | some x => exact ⟨.unk, rfl⟩
theorem Celm_length (l : List Cel) : (Celm l).length = l.length := by simp [Celm]
theorem StNew_spec (most size : Nat) (hm : most ≤ 10000) (hs : size ≤ 60000) (st : St) : RCall Tryz.prog F_stsh_New [.int .i64 most, .int .i64 size] st fun r s => ∃ p, r = .ret (.ptr p 0) ∧
    ∀ st0 I R, Now st0 I R st → Now st0 I (StaA p ⟨most, size, []⟩ * R) s := by
  refine w_stsh_New ?_
  rw [show min (max (most : Int) 0) 10000 = most by omega, show min (max (size : Int) 0) 60000 = size by omega]
  intro st3 h3 st4 h4
  refine ⟨_, rfl, fun st0 I R h0 => ?_⟩
  have n3 := h0.newM
  rw [← h3] at n3
  have n4 := n3.newC (stC ⟨most, size, []⟩ st.next)
  rw [show [V.int .i64 most, .int .i64 size, .map st.next] = stC ⟨most, size, []⟩ st.next from rfl] at h4
  rw [← h4] at n4
  exact stClose (x := ⟨most, size, []⟩) n4
theorem still_spec (x : Cel) (c : Cap) (hl : x.data.length ≤ 60000) (st : St) : RCall Tryz.prog F_stsh_still [x.v c] st fun r s => ∃ c', r = .ret (x.v c') ∧ st.le s := by
  refine w_stsh_still ?_
  intro st4 h4 st5 h5
  have c4 : st4.cells st.next = some (x.cs c) := by rw [h4]; exact cells_new _ _
  have c5 : st5.cells st4.next = some [.int .i64 0, .int .i64 0, .lst 1 [] .nil] := by rw [h5]; exact cells_new _ _
  have c5' : st5.cells st.next = some (x.cs c) := by rw [h5]; exact cells_new' c4
  have hne : st.next ≠ st4.next := by rw [h4]; show st.next ≠ st.next + 1; omega
  have l4 : st.le st4 := by rw [h4]; exact (St.le.refl _).new _
  have l5 : st.le st5 := by rw [h5]; exact l4.new _
  refine ⟨_, _, ldv1 c5' rfl, ?_⟩
  refine (Clone_spec (By x.data) c (by rw [By_length]; omega) st5).mono ?_
  rintro _ s8 ⟨c9, rfl, o8⟩
  refine ⟨_, _, rfl, _, o8.le.getC c5', by simp [Cel.cs], ?_⟩
  intro s11 h11
  have c11 : s11.cells st.next = some (x.cs c9) := by rw [h11]; exact cells_set (o8.le.getC c5')
  have d11 : s11.cells st4.next = some [.int .i64 0, .int .i64 0, .lst 1 [] .nil] := by rw [h11]; exact cells_set' (o8.le.getC c5) (fun e => hne e.symm)
  refine ⟨_, _, _, _, ldvg c11 rfl, rfl, rfl, _, d11, by decide, ?_⟩
  rw [repl_three]
  intro s16 h16
  have c16 : s16.cells st4.next = some (x.cs c9) := by rw [h16]; exact cells_set d11
  refine ⟨_, _, _, _, ldvg c16 rfl, c9, rfl, ?_⟩
  rw [h16]
  refine St.le.set ?_ l4.next _
  rw [h11]
  exact (l5.trans o8.le).set (Nat.le_refl _) _
def celR (l : List Cel) (id : Int) (c : Cap) : Res := .ret (.tup [(celOr l id).v c, .bool (look l id).isSome])
structure StaOk (x : Sta) : Prop where
  most : x.most ≤ 10000
  size : x.size ≤ 60000
  ok : ∀ c ∈ x.l, CelOk c x.size
  long : x.l.length ≤ x.most
theorem celOr_short {x : Sta} (ok : StaOk x) (id : Int) : (celOr x.l id).data.length ≤ 60000 := by
  unfold celOr
  cases h : look x.l id with
  | none => exact Nat.zero_le _
  | some c =>
    have := (ok.ok c (List.mem_of_find?_eq_some h)).long
    have := ok.size
    show c.data.length ≤ _
    omega
theorem StPeek_spec {p : Nat} {x : Sta} (id : Int) (ok : StaOk x) : Does Tryz.prog F_stsh_Stash_Peek [.ptr p 0, .int .i64 id] (StaA p x) fun r => ex fun c => pand (r = celR x.l id c) (StaA p x) := by
  intro st I h
  have nn := (Now.init h).emp
  obtain ⟨m, n0⟩ := stOpen nn
  have n0' := n0.perm (B := mapA m (Celm x.l) * (cellA p (stC x m) * emp)) (by ac_rfl)
  refine w_stsh_Stash_Peek ?_
  intro st3 h3
  have c3 : st3.cells st.next = some [.int .i64 0, .int .i64 0, .lst 1 [] .nil] := by rw [h3]; exact cells_new _ _
  have l3 : st.le st3 := by rw [h3]; exact (St.le.refl _).new _
  obtain ⟨cc, hk⟩ := mlook_cel (n0'.le l3).maps id
  refine ⟨_, ldv1 (n0.le l3).cells rfl, _, _, _, _, _, hk, ?_⟩
  intro s9 h9
  have c9 : s9.cells st3.next = some [.int .i64 0, .int .i64 0, .lst 1 [] .nil] := by rw [h9]; exact cells_new _ _
  have l9 : st3.le s9 := by rw [h9]; exact (St.le.refl _).new _
  refine ⟨rfl, rfl, _, c9, by decide, ?_⟩
  rw [repl_three]
  intro s11 h11
  have c11 : s11.cells st3.next = some ((celOr x.l id).cs cc) := by rw [h11]; exact cells_set c9
  have l11 : st3.le s11 := by rw [h11]; exact l9.set (Nat.le_refl _) _
  refine ⟨_, _, _, _, ldvg c11 rfl, ?_⟩
  refine (still_spec (celOr x.l id) cc (celOr_short ok id) s11).mono ?_
  rintro _ s16 ⟨c19, rfl, l16⟩
  have c16 := (l11.trans l16).getC c3
  refine ⟨_, _, _, _, rfl, rfl, rfl, _, c16, by decide, ?_⟩
  rw [repl_three]
  intro s21 h21
  have c21 : s21.cells st.next = some ((celOr x.l id).cs c19) := by rw [h21]; exact cells_set c16
  refine ⟨_, _, _, _, ldvg c21 rfl, ?_⟩
  have l21 : st.le s21 := by rw [h21]; exact ((l3.trans l11).trans l16).set (Nat.le_refl _) _
  exact (Now.toEx c19 (Now.toPand rfl (nn.le l21))).unemp
theorem StTake_spec {p : Nat} {x : Sta} (id : Int) : Does Tryz.prog F_stsh_Stash_Take [.ptr p 0, .int .i64 id] (StaA p x) fun r => ex fun c => pand (r = celR x.l id c) (StaA p ⟨x.most, x.size, delC x.l id⟩) := by
  intro st I h
  have nn := (Now.init h).emp
  obtain ⟨m, n0⟩ := stOpen nn
  have n0' := n0.perm (B := mapA m (Celm x.l) * (cellA p (stC x m) * emp)) (by ac_rfl)
  refine w_stsh_Stash_Take ?_
  intro st3 h3
  have n3 := n0'.newC [.int .i64 0, .int .i64 0, .lst 1 [] .nil]
  rw [← h3] at n3
  have l3 : st.le st3 := by rw [h3]; exact (St.le.refl _).new _
  obtain ⟨cc, hk⟩ := mlook_cel (n0'.le l3).maps id
  refine ⟨_, ldv1 (n0.le l3).cells rfl, _, _, _, _, _, hk, ?_⟩
  intro s9 h9
  have n9 := n3.newC [.int .i64 0, .int .i64 0, .lst 1 [] .nil]
  rw [← h9] at n9
  refine ⟨rfl, rfl, _, n9.cells, by decide, ?_⟩
  rw [repl_three]
  intro s11 h11
  have n11 := n9.set ((celOr x.l id).cs cc)
  rw [show ([V.int .i64 (celOr x.l id).id, .int .i64 (celOr x.l id).leaf, .lst 1 (By (celOr x.l id).data) cc]) = (celOr x.l id).cs cc from rfl] at h11
  rw [← h11] at n11
  have a11 := n11.perm (B := mapA m (Celm x.l) * (cellA p (stC x m) * (cellA st3.next ((celOr x.l id).cs cc) * (cellA st.next [.int .i64 0, .int .i64 0, .lst 1 [] .nil] * emp)))) (by ac_rfl)
  have b11 := n11.perm (B := cellA p (stC x m) * (mapA m (Celm x.l) * (cellA st3.next ((celOr x.l id).cs cc) * (cellA st.next [.int .i64 0, .int .i64 0, .lst 1 [] .nil] * emp)))) (by ac_rfl)
  refine ⟨_, ldv1 b11.cells rfl, _, a11.maps, by rw [lookM_cel]; rfl, ?_⟩
  rw [delM_cel]
  intro s14 h14
  have n14 := a11.setM (Celm (delC x.l id))
  rw [← h14] at n14
  have a14 := n14.perm (B := cellA st3.next ((celOr x.l id).cs cc) * (mapA m (Celm (delC x.l id)) * (cellA p (stC x m) * (cellA st.next [.int .i64 0, .int .i64 0, .lst 1 [] .nil] * emp)))) (by ac_rfl)
  have b14 := n14.perm (B := cellA st.next [.int .i64 0, .int .i64 0, .lst 1 [] .nil] * (mapA m (Celm (delC x.l id)) * (cellA p (stC x m) * (cellA st3.next ((celOr x.l id).cs cc) * emp)))) (by ac_rfl)
  refine ⟨_, _, _, _, ldvg a14.cells rfl, rfl, rfl, _, b14.cells, by decide, ?_⟩
  rw [repl_three]
  intro s19 h19
  have n19 := b14.set ((celOr x.l id).cs cc)
  rw [show ([V.int .i64 (celOr x.l id).id, .int .i64 (celOr x.l id).leaf, .lst 1 (By (celOr x.l id).data) cc]) = (celOr x.l id).cs cc from rfl] at h19
  rw [← h19] at n19
  refine ⟨_, _, _, _, ldvg n19.cells rfl, ?_⟩
  have n20 := n19.drop.perm (B := cellA st3.next ((celOr x.l id).cs cc) * (cellA p (stC x m) * (mapA m (Celm (delC x.l id)) * emp))) (by ac_rfl)
  exact (Now.toEx cc (Now.toPand rfl (stClose (x := ⟨x.most, x.size, delC x.l id⟩) n20.drop))).unemp
def staMay (x : Sta) (c : Cel) : Bool := celOk c x.size && ((look x.l c.id).isSome || decide (x.l.length < x.most))
def Sta.put (x : Sta) (c : Cel) : Sta := if staMay x c then ⟨x.most, x.size, putC x.l c⟩ else x
theorem StPut_spec {p : Nat} {x : Sta} (c : Cel) (cap : Cap) (ok : StaOk x) : Does Tryz.prog F_stsh_Stash_Put [.ptr p 0, c.v cap] (StaA p x) fun r => pand (r = .ret (.bool (staMay x c))) (StaA p (x.put c)) := by
  intro st I h
  have nn := (Now.init h).emp
  obtain ⟨m, n0⟩ := stOpen nn
  have n0' := n0.perm (B := mapA m (Celm x.l) * (cellA p (stC x m) * emp)) (by ac_rfl)
  refine w_stsh_Stash_Put ?_
  intro st5 h5
  have c5 : st5.cells st.next = some (c.cs cap) := by rw [h5]; exact cells_new _ _
  have l5 : st.le st5 := by rw [h5]; exact (St.le.refl _).new _
  obtain ⟨cc, hk⟩ := mlook_cel (n0'.le l5).maps c.id
  refine ⟨_, ldv1 (n0.le l5).cells rfl, _, ldv1 c5 rfl, _, _, _, _, _, hk, ?_⟩
  intro s12 h12
  have c12 : s12.cells st5.next = some [.int .i64 0, .int .i64 0, .lst 1 [] .nil] := by rw [h12]; exact cells_new _ _
  refine ⟨rfl, rfl, _, c12, by decide, ?_⟩
  rw [repl_three]
  intro s14 h14
  have l14 : st5.le s14 := by rw [h14]; refine St.le.set ?_ (Nat.le_refl _) _; rw [h12]; exact (St.le.refl _).new _
  have c14 := l14.getC c5
  have n14 := n0.le (l5.trans l14)
  refine ⟨_, _, _, _, ldvg c14 rfl, _, ldv1 n14.cells rfl, ?_⟩
  refine (Ok_spec c cap x.size s14).mono ?_
  rintro _ s20 ⟨rfl, l20⟩
  refine ⟨_, rfl, ?_⟩
  intro K hK
  have lx := (l5.trans l14).trans l20
  have c20 := l20.getC c14
  have n20 := n0.le lx
  have n20' := n0'.le lx
  have no : staMay x c = false → K true s20 := fun hf => hK _ _ ⟨fun _ => by
    rw [hf, show x.put c = x by rw [Sta.put, hf]; rfl]
    exact (Now.toPand rfl (nn.le lx)).unemp, fun h => (by cases h)⟩
  have yes : staMay x c = true → K false s20 := fun ht => hK _ _ ⟨fun h => (by cases h), fun _ => by
    rw [ht, show x.put c = ⟨x.most, x.size, putC x.l c⟩ by rw [Sta.put, ht]; rfl]
    have hok : CelOk c x.size := celOk_iff.1 (by unfold staMay at ht; rw [Bool.and_eq_true] at ht; exact ht.1)
    have hsz := ok.size
    refine ⟨_, ldv1 n20.cells rfl, _, ldv1 c20 rfl, _, _, _, _, ldvg c20 rfl, ?_⟩
    refine (still_spec c cap (by have := hok.long; omega) s20).mono ?_
    rintro _ s34 ⟨c37, rfl, l34⟩
    have n34 := n20.le l34
    have n34' := n20'.le l34
    refine ⟨_, _, _, _, rfl, ldv1 n34.cells rfl, ldv1 (l34.getC c20) rfl, _, n34'.maps, by rw [lookM_cel]; rfl, ?_⟩
    intro s39 h39
    rw [show (V.agg [V.int .i64 c.id, .int .i64 c.leaf, .lst 1 (By c.data) Cap.unk]) = c.v .unk from rfl, updM_cel] at h39
    have n39 := n34'.setM (Celm (putC x.l c))
    rw [← h39] at n39
    exact (Now.toPand rfl (stClose (x := ⟨x.most, x.size, putC x.l c⟩) (m := m) (n39.perm (B := cellA p (stC x m) * (mapA m (Celm (putC x.l c)) * emp)) (by ac_rfl)))).unemp⟩
  refine ⟨fun hb => ⟨fun ht => ⟨_, ldv1 n20.cells rfl, _, n20'.maps, _, ldv1 n20.cells rfl, ?_⟩, fun ht => yes ?_⟩, fun hb => no ?_⟩
  · rw [Celm_length]
    have h1 : celOk c x.size = true := by simpa using hb
    have h2 : (look x.l c.id).isSome = false := by simpa using ht
    by_cases hl : x.l.length < x.most
    · rw [show decide ((x.l.length : Int) ≥ (x.most : Int)) = false by simp; omega]
      exact yes (by rw [staMay, h1, h2, decide_eq_true hl]; rfl)
    · rw [show decide ((x.l.length : Int) ≥ (x.most : Int)) = true by simp; omega]
      exact no (by rw [staMay, h1, h2, decide_eq_false hl]; rfl)
  · have h1 : celOk c x.size = true := by simpa using hb
    have h2 : (look x.l c.id).isSome = true := by simpa using ht
    rw [staMay, h1, h2]; rfl
  · have h1 : celOk c x.size = false := by simpa using hb
    rw [staMay, h1]; rfl
end Go.Proofs.YtffenelcgjdbiaaGreatDoor
namespace Go.Sim
open Go Go.RowKit
theorem WRel.grown {B : Env} {g : G} {st : St} {w w' : World} (h : WRel B g st w) (hb : Below w.heap.size w w') (b : Nat) (hbb : w.heap.size ≤ b) (cvs : List Value)
    (hcv : ∀ (j : Nat) c, cvs[j]? = some c → w'.cell? ⟨b, j, none⟩ = some c) :
    WRel B (g.withImm b cvs) st w' ∧ Step g w (g.withImm b cvs) w' := by
  have lt_of : ∀ {k o}, w.heap[k]? = some o → k < w.heap.size := fun {k o} hk => (Array.getElem?_eq_some_iff.1 hk).1
  have old : ∀ k, k < w.heap.size → w'.heap[k]? = w.heap[k]? := hb.block
  have oldc : ∀ x o v, w.cell? ⟨x, o, none⟩ = some v → w'.cell? ⟨x, o, none⟩ = some v := fun x o v hv => by
    have hx : x < w.heap.size := lt_of_cell hv
    simp only [World.cell?] at hv ⊢
    rw [old x hx]; exact hv
  have none_b : ∀ o, g.imm b o = none := fun o => by
    cases hv : g.imm b o with
    | none => rfl
    | some v => have := lt_of_cell (h.imm _ _ _ hv); omega
  have le : g.le (g.withImm b cvs) := ⟨rfl, fun _ _ h => h, fun _ _ h => h, fun x o v hv => by
    have : x ≠ b := fun e => by subst e; rw [none_b] at hv; cases hv
    simpa [G.withImm, this] using hv⟩
  have hsz := hb.size
  refine ⟨⟨?_, h.fresh0, ?_, ?_, h.inj, h.objTok, ?_, ?_, ?_, ?_, ?_, h.tokInj, h.lo, fun k cs hk j c hj => le.imm _ _ _ (h.glob k cs hk j c hj)⟩,
    ⟨le, hsz, hb.os, hb.tape, hb.output, fun x hx => old x (by have := h.base; have := h.lo; omega), fun _ _ h => .inl h, fun t i h => .inl ⟨t, i, h, rfl⟩, fun x hx _ _ => .inl (old x hx), fun x o v hv => ?_⟩⟩
  · have := h.base; omega
  · intro i x hi; have := h.blkO i x hi; omega
  · intro t i hi; have := h.blkT t i hi; omega
  · intro i x o hi hx
    have : x ≠ b := by have := (h.blkO i x hx).2; omega
    simp only [G.withImm, if_neg this]
    exact h.noImm i x o hi hx
  · intro k ks hks
    obtain ⟨b', c', e', f', h1, h2, h3, h4, h5⟩ := h.cells k ks hks
    exact ⟨b', c', e', f', h1, by rw [old _ (lt_of h2)]; exact h2, h3, h4.mono le, h5⟩
  · intro k m hm
    obtain ⟨b', es, cl, h1, h2, ⟨h3, h4⟩, hst⟩ := h.maps k m hm
    exact ⟨b', es, cl, h1, by rw [old _ (lt_of h2)]; exact h2, ⟨h3.mono le, h4.mono le⟩, hst⟩
  · intro x o v hv
    by_cases e' : x = b
    · subst e'
      simp only [G.withImm, if_true] at hv
      exact hcv o v hv
    · simp only [G.withImm, if_neg e'] at hv
      exact oldc _ _ _ (h.imm x o v hv)
  · intro t ht
    obtain ⟨i, c', e', f', h1, h2, h3, h4, h5⟩ := h.tok t ht
    refine ⟨i, c', e', f', h1, by rw [old _ (lt_of h2)]; exact h2, h3, h4, fun o ho => ?_⟩
    have : i.blk ≠ b := by have := (h.blkT t i h1).2; omega
    simp only [G.withImm, if_neg this]
    exact h5 o ho
  · by_cases e : x = b
    · exact .inr (.inl (e ▸ hbb))
    · simp only [G.withImm, if_neg e] at hv; exact .inl hv
end Go.Sim
namespace Go.Proofs
open Go.RowKit Go.Maps Go.Sort Go.Shelf
def Tryz.lays189_ren : Go.Shelf.Ren := ⟨fun | 189 => 97 | 125 => 111 | 257 => 110 | 128 => 135 | 129 => 136 | 294 => 126 | 295 => 127 | 296 => 128 | 297 => 129 | 298 => 130 | 299 => 131 | 216 => 132 | 300 => 133 | 301 => 134 | 328 => 146 | 329 => 147 | 330 => 148 | 331 => 149 | 332 => 150 | 215 => 151 | 343 => 154 | n => n, fun | 28 => 85 | 3 => 3 | 46 => 32 | 0 => 0 | 51 => 57 | 53 => 43 | 4 => 4 | 183 => 170 | 182 => 169 | 131 => 136 | 5 => 5 | 9 => 9 | 218 => 187 | 222 => 190 | 228 => 193 | 229 => 194 | n => n, fun | n => n⟩
theorem Tryz.lays189 : Go.Proofs.Lays.n189 Tryz.prog Tryz.lays189_ren := {
  mixed := by kernel_rfl
  f125 := Tryz.func111.trans (congrArg some (by kernel_rfl))
  f128 := Tryz.func135.trans (congrArg some (by kernel_rfl))
  f129 := Tryz.func136.trans (congrArg some (by kernel_rfl))
  f189 := Tryz.func97.trans (congrArg some (by kernel_rfl))
  f215 := Tryz.func151.trans (congrArg some (by kernel_rfl))
  f216 := Tryz.func132.trans (congrArg some (by kernel_rfl))
  f257 := Tryz.func110.trans (congrArg some (by kernel_rfl))
  f294 := Tryz.func126.trans (congrArg some (by kernel_rfl))
  f295 := Tryz.func127.trans (congrArg some (by kernel_rfl))
  f296 := Tryz.func128.trans (congrArg some (by kernel_rfl))
  f297 := Tryz.func129.trans (congrArg some (by kernel_rfl))
  f298 := Tryz.func130.trans (congrArg some (by kernel_rfl))
  f299 := Tryz.func131.trans (congrArg some (by kernel_rfl))
  f300 := Tryz.func133.trans (congrArg some (by kernel_rfl))
  f301 := Tryz.func134.trans (congrArg some (by kernel_rfl))
  f328 := Tryz.func146.trans (congrArg some (by kernel_rfl))
  f329 := Tryz.func147.trans (congrArg some (by kernel_rfl))
  f330 := Tryz.func148.trans (congrArg some (by kernel_rfl))
  f331 := Tryz.func149.trans (congrArg some (by kernel_rfl))
  f332 := Tryz.func150.trans (congrArg some (by kernel_rfl))
  f343 := Tryz.func154.trans (congrArg some (by kernel_rfl))
  t0 := Tryz.underlying0
  a0 := Tryz.isAgg0
  z0 := Tryz.sizeOf0
  v0 := Tryz.zeroValue0
  t3 := Tryz.underlying3
  a3 := Tryz.isAgg3
  z3 := Tryz.sizeOf3
  v3 := Tryz.zeroValue3
  t4 := Tryz.underlying4
  a4 := Tryz.isAgg4
  z4 := Tryz.sizeOf4
  v4 := Tryz.zeroValue4
  t5 := Tryz.underlying5
  a5 := Tryz.isAgg5
  z5 := Tryz.sizeOf5
  v5 := Tryz.zeroValue5
  t9 := Tryz.underlying9
  a9 := Tryz.isAgg9
  z9 := Tryz.sizeOf9
  v9 := Tryz.zeroValue9
  t28 := Tryz.underlying85
  a28 := Tryz.isAgg85
  z28 := Tryz.sizeOf85
  v28 := Tryz.zeroValue85
  t46 := Tryz.underlying32
  a46 := Tryz.isAgg32
  z46 := Tryz.sizeOf32
  v46 := Tryz.zeroValue32
  t51 := Tryz.underlying57
  a51 := Tryz.isAgg57
  z51 := Tryz.sizeOf57
  v51 := Tryz.zeroValue57
  t53 := Tryz.underlying43
  a53 := Tryz.isAgg43
  z53 := Tryz.sizeOf43
  v53 := Tryz.zeroValue43
  t131 := Tryz.underlying136
  a131 := Tryz.isAgg136
  z131 := Tryz.sizeOf136
  v131 := Tryz.zeroValue136
  t182 := Tryz.underlying169
  a182 := Tryz.isAgg169
  z182 := Tryz.sizeOf169
  v182 := Tryz.zeroValue169
  t183 := Tryz.underlying170
  a183 := Tryz.isAgg170
  z183 := Tryz.sizeOf170
  v183 := Tryz.zeroValue170
  t218 := Tryz.underlying187
  a218 := Tryz.isAgg187
  z218 := Tryz.sizeOf187
  v218 := Tryz.zeroValue187
  t222 := Tryz.underlying190
  a222 := Tryz.isAgg190
  z222 := Tryz.sizeOf190
  v222 := Tryz.zeroValue190
  t228 := Tryz.underlying193
  a228 := Tryz.isAgg193
  z228 := Tryz.sizeOf193
  v228 := Tryz.zeroValue193
  t229 := Tryz.underlying194
  a229 := Tryz.isAgg194
  z229 := Tryz.sizeOf194
  v229 := Tryz.zeroValue194 }
set_option maxRecDepth 100000 in
set_option maxHeartbeats 1000000 in
theorem Tryz.keys1N_in {H : Type} {R : Value → Option (DataW H × List MemPlace)} (F : Fence) (n : Nat) (h10 : F.fn 98) (hro : F.round = none) (hn : 1 ≤ n) (l Bm b nn : Nat) (D0 : DataW H) (J : List Int → World → Prop)
    (hY : ∀ pre x W, J pre W → pre.length < Maps.size D0 → YieldAt F (n - 1) Tryz.prog l #[encZ x] W fun e W' => e = .returned (.bool true) ∧ J (pre ++ [x]) W' ∧ KeepsWalks W W')
    (W : World) (hJ : AbidesFrom W.heap.size J) (hm : W.cell? ⟨Bm, 0, none⟩ = some (.map (some b))) (hown : W.ownsMap Tryz.prog 3 R b nn D0) (h0 : J [] W) :
    CallsIn F n Tryz.prog 98 #[.func (.yield l) #[] #[], .pointer (some ⟨Bm, 0, none⟩)] W fun e W' => (∃ v, e = .returned v) ∧ ∃ ss : List Int, ss.Perm (intKeys D0) ∧ J ss W' := by
  refine callsIn_of_wp Tryz.func98 rfl h10 ?_ hro
  simp only [Tryz.ntmps98, List.size_toArray, List.length_cons, List.length_nil, Nat.reduceAdd, Nat.reduceSub, Array.replicate_succ, Array.replicate_zero, List.push_toArray, List.append_toArray, List.nil_append, List.cons_append]
  gi_wp2_with (first
    | (gi_at_range; refine wpListIn_range_own _ rfl _ 115 rfl 3 77 (int_keyed Tryz.underlying3) Tryz.underlying115 _ b nn _ rfl hown ?_; intro w0 hrg0 hg0 hs0)
    | gi_in)
  go_frame
  gi_loopw [3] (fun _ wr => ∃ (left : Lit → Bool) (cnt : Nat) (ss : List Int), wr.ranges Tryz.prog 3 R b W.heap.size nn D0 left cnt ∧ ss.length + cnt ≤ Maps.size D0 ∧ CollectedI D0 left ss ∧ J ss wr)
    (fun _ wr => wr.rangeLeft b W.heap.size)
  case atStart =>
    exact ⟨_, _, [], hrg0, by simp, CollectedI.start D0, hJ [] W w0 none h0 hg0 (fun r e => by cases e)⟩
  case round =>
    obtain ⟨left, cnt, ss, hrg, hcs, hC, hJs⟩ := hrel
    gi_wp2_with (first
      | (gi_at_next; refine wpListIn_next_ranges _ rfl _ rfl 3 (int_keyed Tryz.underlying3) R encZ id (fun key kl hk => by obtain ⟨x, hx, _⟩ := Maps.keyOf_i64 Tryz.underlying3 hk; exact ⟨x, hx⟩) (fun v _ _ => ⟨v, rfl⟩) b W.heap.size nn _ _ _ rfl hrg ?_ ?_)
      | gi_in)
    · 
      intro hc0 hl0
      gi_wp2
      go_end0
      exact ⟨⟨_, rfl⟩, ss, hC.perm hown (int_keyed Tryz.underlying3) Tryz.underlying3 hl0, hJs⟩
    · 
      intro x c kl yd yp w2 cnt2 hkey hlk hv hat hrg2 hlt hg2 hs2 hen
      obtain ⟨x', ex, rfl, _⟩ := Maps.keyOf_i64 Tryz.underlying3 hkey
      obtain rfl : x = x' := encZ_inj ex
      have hJ2 : J ss w2 := hJ ss wr w2 (some W.heap.size) hJs hg2 (fun r e => by cases e; exact ⟨Nat.le_refl _, hrg.iter_walk⟩)
      obtain ⟨fn, tmps, assign, body, hy, hR⟩ := hY ss x w2 hJ2 (by omega)
      clear hs2
      gi_wp2
      refine hR.mono ?_
      rintro e W3 ⟨rfl, hJ3, hk3⟩
      gi_wp2
      have hrg3 := hrg2.of_walks hk3
      go_roundw
      case rel => exact ⟨_, cnt2, ss ++ [x], hrg3, by simp; omega, hC.step hlk hat, hJ3⟩
      case measure => rw [hrg3.left_eq, hrg.left_eq]; exact hlt
theorem Tryz.keys_gives {H : Type} {R : Value → Option (DataW H × List MemPlace)} (F : Fence) (n : Nat) (h10 : F.fn 98) (hro : F.round = none) (hn : 1 ≤ n) (Bm b nn : Nat) (D0 : DataW H) (w : World) (hBm : Bm < w.heap.size)
    (hm : w.cell? ⟨Bm, 0, none⟩ = some (.map (some b))) (hown : w.ownsMap Tryz.prog 3 R b nn D0) :
    SeqGives F n Tryz.prog 98 #[.pointer (some ⟨Bm, 0, none⟩)] encZ (fun ss => ss.Perm (intKeys D0)) (Maps.size D0) w := fun l J W hW hJ hY h0 => by
  have hown' : W.ownsMap Tryz.prog 3 R b nn D0 := by
    have hbl := hown.lt
    obtain ⟨es, clock, hb, Ft, hs, hD⟩ := hown
    exact ⟨es, clock, (hW.block b hbl).trans hb, Ft, hs, hD⟩
  exact Tryz.keys1N_in F n h10 hro hn l Bm b nn D0 J hY W hJ ((hW.cell (p := ⟨Bm, 0, none⟩) hBm).trans hm) hown' h0
def Tryz.apAssign : Code := (Code.region 2 #[{ dst := some 5, op := Op.assign (Operand.tmp 7), type := 3, pos := "iter.go:51", after := #[], guard := none }] false)
def Tryz.apBody : Code := (Code.block 1 (Code.region 3 #[{ dst := some 8, op := Op.load 85 (Operand.tmp 2), type := 85, pos := "iter.go:52", after := #[], guard := none }, { dst := some 9, op := Op.move (Operand.tmp 5), type := 3, pos := "iter.go:52", after := #[], guard := none }, { dst := some 10, op := Op.buildSlice 85 1 #[(0, Operand.tmp 9)], type := 85, pos := "iter.go:52", after := #[{ on := 1, ground := Ground.data }], guard := none }, { dst := some 11, op := Op.call { callee := Callee.builtin Builtin.append, args := #[Operand.tmp 8, Operand.tmp 10], argTypes := #[85, 85] }, type := 85, pos := "iter.go:52", after := #[{ on := 0, ground := Ground.data }, { on := 2, ground := Ground.data }], guard := none }, { dst := none, op := Op.store 85 (Operand.tmp 2) (Operand.tmp 11), type := 0, pos := "iter.go:52", after := #[{ on := 3, ground := Ground.data }, { on := 3, ground := Ground.chain }, { on := 0, ground := Ground.phase }, { on := 1, ground := Ground.phase }, { on := 2, ground := Ground.phase }, { on := 3, ground := Ground.phase }], guard := none }] false))
def Tryz.apRec (fn : FuncId) (sv : Value) (Bs D : Nat) (st : LoopState) (pend : Option Code) : Loop :=
  { state := st, pending := pend, fn, tmps := #[.slice none 0 0, sv, .pointer (some ⟨Bs, 0, none⟩), undef, .slice none 0 0, undef, sv, undef, undef, undef, undef, undef, undef], params := #[7], assign := Tryz.apAssign, body := Tryz.apBody, defers := D }
structure Tryz.ApAt (w0 : World) (fn : FuncId) (sv : Value) (Bs l D : Nat) (ss : List Int) (W : World) : Prop where
  box : ∃ v, W.heap[Bs]? = some (.cells #[v] 85 (0, 0)) ∧ W.ownsRow w0.heap.size 3 1 v ss.length (ss.map encZ) ∧ (v = .slice none 0 0 ↔ ss = [])
  L : W.heap[l]? = some (.loop (Tryz.apRec fn sv Bs D .ready none))
  K : W.heap[D]? = some (.deferred (some []))
  below : Below w0.heap.size w0 W
theorem ownsRow_abides {W W' : World} {row : Option Nat} {base : Nat} {e : TypeId} {size : Nat} {v : Value} {k : Nat} {xs : List Value} (h : W.ownsRow base e size v k xs) (hg : W.grownBy W' row)
    (hrow : ∀ r, row = some r → ∃ o : Obj, W.heap[r]? = some o ∧ o.isWalk = true) : W'.ownsRow base e size v k xs := by
  refine h.kept hg ?_
  rcases h.2 with ⟨rfl, _⟩ | ⟨g, cap, cur, rfl, _, hgb, _⟩
  · exact .inl rfl
  · refine .inr fun e' => ?_
    obtain ⟨o, ho, hw⟩ := hrow g (by simpa [Value.ownBlock] using e'.symm)
    rw [hgb] at ho; cases ho; cases hw
theorem Tryz.ap_abides (w0 : World) (fn : FuncId) (sv : Value) (Bs l D B : Nat) (hB : w0.heap.size ≤ B) : AbidesFrom B (Tryz.ApAt w0 fn sv Bs l D) := fun s W W' row h hg hrow => by
  have hrow' : ∀ r, row = some r → ∃ o : Obj, W.heap[r]? = some o ∧ o.isWalk = true := fun r e => (hrow r e).2
  obtain ⟨v, hv, hr, hn⟩ := h.box
  exact ⟨⟨v, (grownBy_keeps hg hrow' hv rfl).trans hv, ownsRow_abides hr hg hrow', hn⟩, (grownBy_keeps hg hrow' h.L rfl).trans h.L, (grownBy_keeps hg hrow' h.K rfl).trans h.K,
    h.below.grown hg h.below.size (fun k e => Nat.le_trans hB (hrow k e).1)⟩
theorem grownBy_putObj (W : World) (l : Nat) (o : Obj) : W.grownBy (W.putObj l o) (some l) :=
  ⟨rfl, rfl, rfl, by simp, fun k _ hk => World.putObj_heap_other (fun e => hk (by rw [e]))⟩
theorem grownBy_setCell0 (W : World) (b : Nat) (v : Value) : W.grownBy (W.setCell ⟨b, 0, none⟩ v) (some b) :=
  ⟨rfl, rfl, rfl, (KeepsWalks.setCell W _ v).size, fun k _ hk => Below.heap_setCell _ _ _ k (fun e => hk (by rw [e]))⟩
theorem ownsRow_ne {W : World} {base : Nat} {e : TypeId} {size : Nat} {v : Value} {k : Nat} {xs : List Value} (h : W.ownsRow base e size v k xs) {j : Nat} {o : Obj} (hj : W.heap[j]? = some o) (hno : ∀ cur, o ≠ .cells cur e (0, 0)) :
    v.ownBlock = none ∨ v.ownBlock ≠ some j := by
  rcases h.2 with ⟨rfl, _⟩ | ⟨g, cap, cur, rfl, _, hgb, _⟩
  · exact .inl rfl
  · refine .inr fun e' => ?_
    have : g = j := by simpa [Value.ownBlock] using e'
    subst this; rw [hgb] at hj; cases hj; exact hno cur rfl
theorem cell_of_box {W : World} {B : Nat} {v : Value} {t : TypeId} (h : W.heap[B]? = some (.cells #[v] t (0, 0))) : W.cell? ⟨B, 0, none⟩ = some v ∧ W.frozen? ⟨B, 0, none⟩ = false := by
  constructor <;> simp [World.cell?, World.frozen?, h]
theorem heap_setCell_box {W : World} {B : Nat} {v : Value} {t : TypeId} (v' : Value) (h : W.heap[B]? = some (.cells #[v] t (0, 0))) : (W.setCell ⟨B, 0, none⟩ v').heap[B]? = some (.cells #[v'] t (0, 0)) := by
  obtain ⟨hlt, hk⟩ := Array.getElem?_eq_some_iff.1 h
  show (W.heap.modify B _)[B]? = _
  rw [Array.getElem?_eq_getElem (by rw [Array.size_modify]; exact hlt), Array.getElem_modify_self, hk]
  rfl
theorem ownsRow_not_walk {W : World} {base : Nat} {e : TypeId} {size : Nat} {v : Value} {k : Nat} {xs : List Value} (h : W.ownsRow base e size v k xs) : ∀ (j : Nat) (o : Obj), v.ownBlock = some j → W.heap[j]? = some o → o.isWalk = false := by
  intro j o hj ho
  rcases h.2 with ⟨rfl, _⟩ | ⟨g, cap, cur, rfl, _, hgb, _⟩
  · simp [Value.ownBlock] at hj
  · have : g = j := by simpa [Value.ownBlock] using hj
    subst this; rw [hgb] at ho; cases ho; rfl
theorem Tryz.info3 : (Tryz.prog.info? 3).map (fun i => (i.zero, i.size, i.bytes)) = some (some (.int .i64 0), 1, 8) := by kernel_rfl
set_option maxRecDepth 100000 in
set_option maxHeartbeats 2000000 in
theorem Tryz.apYield (F : Fence) (m : Nat) (w0 : World) (fn : FuncId) (hfn : F.fn fn) (sv : Value) (Bs l D : Nat) (hBl : Bs ≠ l) (hDl : D ≠ l) (hDB : D ≠ Bs) (h0B : w0.heap.size ≤ Bs) (h0l : w0.heap.size ≤ l)
    (N : Nat) (hN : N ≤ maxLen) (hNb : N * 8 ≤ 140737488355328) (ss : List Int) (x : Int) (W : World) (h : Tryz.ApAt w0 fn sv Bs l D ss W) (hlen : ss.length < N) :
    YieldAt F m Tryz.prog l #[encZ x] W fun e W' => e = .returned (.bool true) ∧ Tryz.ApAt w0 fn sv Bs l D (ss ++ [x]) W' ∧ KeepsWalks W W' := by
  obtain ⟨i0, hi, hz0, hz1, hz2⟩ := info_parts Tryz.info3
  obtain ⟨v, hv, hrow, _⟩ := h.box
  refine ⟨fn, #[.slice none 0 0, sv, .pointer (some ⟨Bs, 0, none⟩), undef, .slice none 0 0, undef, sv, encZ x, undef, undef, undef, undef, undef], Tryz.apAssign, Tryz.apBody, by simpa [Tryz.apRec] using run_yield (P := Tryz.prog) (args := #[encZ x]) h.L rfl, roundIn_of_wpIn hfn ?_⟩
  have hl : l < W.heap.size := (Array.getElem?_eq_some_iff.1 h.L).1
  have hbr := run_beginRound (P := Tryz.prog) h.L rfl
  obtain ⟨W2, hW2⟩ : ∃ W2, W.putObj l (.loop { Tryz.apRec fn sv Bs D .ready none with state := .busy }) = W2 := ⟨_, rfl⟩
  rw [hW2] at hbr
  have hg2 : W.grownBy W2 (some l) := by rw [← hW2]; exact grownBy_putObj _ _ _
  have hk2 : KeepsWalks W W2 := by rw [← hW2]; exact KeepsWalks.putObj _ h.L rfl
  have hv2 : W2.heap[Bs]? = some (.cells #[v] 85 (0, 0)) := by rw [← hW2]; exact (World.putObj_heap_other hBl).trans hv
  have hK2 : W2.heap[D]? = some (.deferred (some [])) := by rw [← hW2]; exact (World.putObj_heap_other hDl).trans h.K
  have hL2 : W2.heap[l]? = some (.loop { Tryz.apRec fn sv Bs D .ready none with state := .busy }) := by rw [← hW2]; exact World.putObj_heap_same hl
  have hrow2 : W2.ownsRow w0.heap.size 3 1 v ss.length (ss.map encZ) := hrow.kept hg2 (ownsRow_ne hrow h.L (fun cur e => by cases e))
  have hb2 : Below w0.heap.size w0 W2 := h.below.grown hg2 h.below.size (fun k e => by cases e; exact h0l)
  obtain ⟨hc2, hf2⟩ := cell_of_box hv2
  have hBlt : Bs < W2.heap.size := (Array.getElem?_eq_some_iff.1 hv2).1
  have hl2 : l < W2.heap.size := (Array.getElem?_eq_some_iff.1 hL2).1
  have hDlt : D < W2.heap.size := (Array.getElem?_eq_some_iff.1 hK2).1
  have ne_of : ∀ {j : Nat} {o : Obj}, W2.heap[j]? = some o → (∀ cur, o ≠ .cells cur 3 (0, 0)) → some j ≠ v.ownBlock := fun hj hno => by
    rcases ownsRow_ne hrow2 hj hno with e | e
    · rw [e]; simp
    · exact fun e' => e e'.symm
  clear hW2
  unfold Tryz.apAssign
  gi_wp2_with (rw [Oper.semAt_eq _ _ _ (fun c h => by cases h)]; go_simp; try go_bits)
  unfold Tryz.apBody
  gi_wp2_with (first
    | (gi_at_builtin; refine wpListIn_append_own _ rfl _ _ 85 rfl w0.heap.size 3 i0 (.int .i64 0) 1 8 Tryz.underlying85 hi hz0 hz1 hz2 rfl (by decide) _ _ _ rfl (hrow2.alloc _) ⟨W2.heap.size, 0, none⟩ 1 1 [encZ x] rfl rfl (cell_one_new _ _ _) (by simp [Value.oneCell', encZ]) (by omega) (by omega) (by have := hb2.size; simp; omega) ?_; intro v' w3 hown' hg3 hnil3
       have hv3 : w3.heap[Bs]? = some (.cells #[v] 85 (0, 0)) := (hg3.block Bs (by simp; omega) (ne_of hv2 (fun cur e => by cases e))).trans ((Below.heap_alloc _ _ Bs hBlt).trans hv2)
       obtain ⟨hc3, hf3⟩ := cell_of_box hv3
       obtain ⟨g', cap', cur', rfl, hbase', hgb', hr1, hr2, hr3, hr4⟩ : ∃ g' cap' cur', v' = .slice (some ⟨g', 0, none⟩) (ss.length + 1) cap' ∧ w0.heap.size ≤ g' ∧ w3.heap[g']? = some (.cells cur' 3 (0, 0)) ∧ ss.length + 1 ≤ cap' ∧ cap' ≤ maxLen ∧ cur'.size = cap' * 1 ∧ cur'.toList.take ((ss.length + 1) * 1) = ss.map encZ ++ [encZ x] := by
         rcases hown'.2 with ⟨_, h0⟩ | h'
         · exact absurd h0 (by omega)
         · exact h'
       go_frame)
    | (rw [Oper.semAt_eq _ _ _ (fun c h => by cases h)]; go_simp; try go_bits))
  have hg3' : (W2.alloc (.cells #[encZ x] 3)).grownBy w3 v.ownBlock := hg3
  have hL3 : w3.heap[l]? = some (.loop { Tryz.apRec fn sv Bs D .ready none with state := .busy }) := (hg3'.block l (by simp; omega) (ne_of hL2 (fun cur e => by cases e))).trans ((Below.heap_alloc _ _ l hl2).trans hL2)
  have hK3 : w3.heap[D]? = some (.deferred (some [])) := (hg3'.block D (by simp; omega) (ne_of hK2 (fun cur e => by cases e))).trans ((Below.heap_alloc _ _ D hDlt).trans hK2)
  obtain ⟨w4, hw4⟩ : ∃ w4, w3.setCell ⟨Bs, 0, none⟩ (.slice (some ⟨g', 0, none⟩) (ss.length + 1) cap') = w4 := ⟨_, rfl⟩
  rw [hw4]
  have hg4 : w3.grownBy w4 (some Bs) := by rw [← hw4]; exact grownBy_setCell0 _ _ _
  have hv4 : w4.heap[Bs]? = some (.cells #[.slice (some ⟨g', 0, none⟩) (ss.length + 1) cap'] 85 (0, 0)) := by rw [← hw4]; exact heap_setCell_box _ hv3
  have hL4 : w4.heap[l]? = some (.loop { Tryz.apRec fn sv Bs D .ready none with state := .busy }) := (hg4.block l (Array.getElem?_eq_some_iff.1 hL3).1 (fun e => hBl (by cases e; rfl))).trans hL3
  have hK4 : w4.heap[D]? = some (.deferred (some [])) := (hg4.block D (Array.getElem?_eq_some_iff.1 hK3).1 (fun e => hDB (by cases e; rfl))).trans hK3
  have hrow4 := hown'.kept hg4 (ownsRow_ne hown' hv3 (fun cur e => by cases e))
  have hl4 : l < w4.heap.size := (Array.getElem?_eq_some_iff.1 hL4).1
  have hb3 : Below w0.heap.size w0 w3 := (hb2.alloc hb2.size _).grown hg3' (by have := hb2.size; simp; omega) (fun k e => (hrow2.lt k e).1)
  have hb4 : Below w0.heap.size w0 w4 := hb3.grown hg4 hb3.size (fun k e => by cases e; exact h0B)
  have hk4 : KeepsWalks W w4 := ((hk2.trans (KeepsWalks.alloc _ _)).trans (KeepsWalks.of_grownBy hg3' (ownsRow_not_walk (hrow2.alloc _)))).trans (by rw [← hw4]; exact KeepsWalks.setCell _ _ _)
  clear hw4
  refine ⟨_, _, run_endRound none hL4, rfl, ⟨⟨_, (World.putObj_heap_other hBl).trans hv4, ?_, by simp⟩, World.putObj_heap_same hl4, (World.putObj_heap_other hDl).trans hK4, hb4.grown (grownBy_putObj _ _ _) hb4.size (fun k e => by cases e; exact h0l)⟩, hk4.trans (KeepsWalks.putObj _ hL4 rfl)⟩
  have := hrow4.kept (grownBy_putObj w4 l (.loop { { Tryz.apRec fn sv Bs D .ready none with state := .busy } with state := if (none : Option Code).isNone then .ready else .done, pending := none })) (ownsRow_ne hrow4 hL4 (fun cur e => by cases e))
  simpa using this
set_option maxRecDepth 100000 in
set_option maxHeartbeats 2000000 in
theorem Tryz.appendSeq_in (F : Fence) (n : Nat) (h11 : F.fn 109) (hro : F.round = none) (hn : 2 ≤ n) (g : Nat) (lb : Array Value) (hFg : F.fn g) (eg : ∀ args w, (callFunc g args).run Tryz.prog w = .ok (.enter g args) w)
    (S : List Int → Prop) (N : Nat) (hN : N ≤ maxLen) (hNb : N * 8 ≤ 140737488355328) (w : World) (hseq : SeqGives F (n - 1) Tryz.prog g lb encZ S N w) :
    CallsIn F n Tryz.prog 109 #[.slice none 0 0, .func (.func g) #[] lb] w fun e w' => ∃ (v : Value) (ss : List Int), e = .returned v ∧ S ss ∧ w'.ownsRow w.heap.size 3 1 v ss.length (ss.map encZ) ∧ (v = .slice none 0 0 ↔ ss = []) ∧ Below w.heap.size w w' := by
  have h1 : 1 ≤ n := by omega
  refine callsIn_of_wp_marks Tryz.func109 rfl h11 ?_ hro
  simp only [Tryz.ntmps109, List.size_toArray, List.length_cons, List.length_nil, Nat.reduceAdd, Nat.reduceSub, Array.replicate_succ, Array.replicate_zero, List.push_toArray, List.append_toArray, List.nil_append, List.cons_append]
  gi_wp2
  refine wpIn_rangeFunc ?_
  intro fn hfn
  rw [hro]
  obtain ⟨W0, hW0⟩ : ∃ W0, w.alloc (.cells #[.slice none 0 0] 85) = W0 := ⟨_, rfl⟩
  have hs0 : W0.heap.size = w.heap.size + 1 := by rw [← hW0]; simp
  have hv0 : W0.heap[w.heap.size]? = some (.cells #[.slice none 0 0] 85 (0, 0)) := by rw [← hW0]; exact World.alloc_heap_new w _
  have hb0 : Below w.heap.size w W0 := by rw [← hW0]; exact (Below.refl _ w).alloc (Nat.le_refl _) _
  rw [hW0]
  obtain ⟨W1, hW1⟩ : ∃ W1, (W0.alloc (.deferred (some []))).alloc (.loop (Tryz.apRec fn (.func (.func g) #[] lb) w.heap.size W0.heap.size .ready none)) = W1 := ⟨_, rfl⟩
  have hold : ∀ k, k < W0.heap.size → W1.heap[k]? = W0.heap[k]? := fun k hk => by
    rw [← hW1]; exact (Below.heap_alloc _ _ k (by simp; omega)).trans (Below.heap_alloc _ _ k hk)
  have hb1 : Below w.heap.size w W1 := by rw [← hW1]; exact (hb0.alloc hb0.size _).alloc (by have := hb0.size; simp; omega) _
  have hs1 : W1.heap.size = W0.heap.size + 2 := by rw [← hW1]; simp
  have hM : Tryz.ApAt w fn (.func (.func g) #[] lb) w.heap.size (W0.heap.size + 1) W0.heap.size [] W1 :=
    ⟨⟨_, (hold w.heap.size (by omega)).trans hv0, ⟨rfl, .inl ⟨rfl, rfl⟩⟩, by simp⟩,
     by rw [← hW1]; have := World.alloc_heap_new (W0.alloc (.deferred (some []))) (.loop (Tryz.apRec fn (.func (.func g) #[] lb) w.heap.size W0.heap.size .ready none)); rwa [World.size_alloc] at this,
     by rw [← hW1]; exact (Below.heap_alloc _ _ _ (by simp)).trans (World.alloc_heap_new W0 _), hb1⟩
  refine ⟨W0.heap.size + 1, [{ target := .collected W0.heap.size, args := #[] }], W1, { target := .fn (.func g) lb, args := #[.func (.yield (W0.heap.size + 1)) #[] #[]] }, W1, g,
    #[.func (.yield (W0.heap.size + 1)) #[] #[]] ++ lb, W1, ?_, ?_, ?_, ?_, fun _ => h1, ?_⟩
  · rw [← hW1]; exact run_enterLoop_outer _ _ _ _ _
  · simp [resolve, go_sem]
  · intro f' hf'; simp [Target.leads] at hf'; subst hf'; exact hFg
  · simp [invoke, go_sem, eg]
  · refine (hseq (W0.heap.size + 1) (Tryz.ApAt w fn (.func (.func g) #[] lb) w.heap.size (W0.heap.size + 1) W0.heap.size) W1 hb1 (Tryz.ap_abides _ _ _ _ _ _ _ hb1.size)
      (fun pre x W hJ hl => Tryz.apYield F (n - 1 - 1) w fn hfn _ w.heap.size (W0.heap.size + 1) W0.heap.size (by omega) (by omega) (by omega) (Nat.le_refl _) (by omega) N hN hNb pre x W hJ hl) hM).mono ?_
    rintro e W2 ⟨⟨v0, rfl⟩, ss, hS, h2⟩
    obtain ⟨v, hv, hrow, hnil⟩ := h2.box
    have hend := run_endLoop (P := Tryz.prog) h2.L (by simp [Tryz.apRec])
    obtain ⟨W3, hW3⟩ : ∃ W3, W2.putObj (W0.heap.size + 1) (.loop { Tryz.apRec fn (.func (.func g) #[] lb) w.heap.size W0.heap.size .ready none with state := .exhausted }) = W3 := ⟨_, rfl⟩
    rw [hW3] at hend
    have hg3 : W2.grownBy W3 (some (W0.heap.size + 1)) := by rw [← hW3]; exact grownBy_putObj _ _ _
    have hv3 : W3.heap[w.heap.size]? = some (.cells #[v] 85 (0, 0)) := by rw [← hW3]; exact (World.putObj_heap_other (by omega)).trans hv
    have hK3 : W3.heap[W0.heap.size]? = some (.deferred (some [])) := by rw [← hW3]; exact (World.putObj_heap_other (by omega)).trans h2.K
    have hrow3 := hrow.kept hg3 (ownsRow_ne hrow h2.L (fun cur e => by cases e))
    have hb3 : Below w.heap.size w W3 := h2.below.grown hg3 h2.below.size (fun k e => by cases e; omega)
    obtain ⟨hc3, hf3⟩ := cell_of_box hv3
    clear hW3
    refine ⟨none, W3, hend, ?_⟩
    gi_wp2
    rw [← hs0]
    refine ⟨by simp, .inl ⟨_, _, rfl, run_takeDeferred hK3, ?_⟩⟩
    exact ⟨_, results_tmp rfl _ _ _, v, ss, rfl, hS, hrow3.kept (grownBy_putObj _ _ _) (ownsRow_ne hrow3 hK3 (fun cur e => by cases e)), hnil, hb3.grown (grownBy_putObj _ _ _) hb3.size (fun k e => by cases e; omega)⟩
set_option maxHeartbeats 1000000 in
theorem Tryz.collect_in (F : Fence) (n : Nat) (h8 : F.fn 96) (h11 : F.fn 109) (hro : F.round = none) (hn : 3 ≤ n) (g : Nat) (lb : Array Value) (hFg : F.fn g) (eg : ∀ args w, (callFunc g args).run Tryz.prog w = .ok (.enter g args) w)
    (S : List Int → Prop) (N : Nat) (hN : N ≤ maxLen) (hNb : N * 8 ≤ 140737488355328) (w : World) (hseq : SeqGives F (n - 1 - 1) Tryz.prog g lb encZ S N w) :
    CallsIn F n Tryz.prog 96 #[.func (.func g) #[] lb] w fun e w' => ∃ (v : Value) (ss : List Int), e = .returned v ∧ S ss ∧ w'.ownsRow w.heap.size 3 1 v ss.length (ss.map encZ) ∧ (v = .slice none 0 0 ↔ ss = []) ∧ Below w.heap.size w w' := by
  have h1 : 1 ≤ n := by omega
  refine callsIn_of_wp Tryz.func96 rfl h8 ?_ hro
  simp only [Tryz.ntmps96, List.size_toArray, List.length_cons, List.length_nil, Nat.reduceAdd, Nat.reduceSub, Array.replicate_succ, Array.replicate_zero, List.push_toArray, List.append_toArray, List.nil_append, List.cons_append]
  gi_wp2_with (gi_at_call 109; refine (Tryz.appendSeq_in F (n - 1) h11 hro (by omega) g lb hFg eg S N hN hNb _ hseq).mono ?_; rintro e w' ⟨v, ss, rfl, hS, hrow, hnil, hb⟩)
  go_ret
  exact ⟨v, ss, rfl, hS, hrow, hnil, hb⟩
def Tryz.SortsIn (F : Fence) (m : Nat) : Prop :=
  (∀ (blk off cap : Nat) (ss : List Int) (W : World), Holds encZ W blk off ss.toArray → blk < W.heap.size → ss.length < 4611686018427387904 →
    CallsIn F m Tryz.prog 97 #[.slice (some ⟨blk, off, none⟩) ss.length cap] W fun e w' => e = .returned (.tuple #[]) ∧ ∃ k os, w' = grow (putRow encZ (Sort.ahead W k) blk off (ss.mergeSort fun x y => decide (x ≤ y)).toArray) os) ∧
  (∀ (p : Option Addr) (cap : Nat) (W : World), CallsIn F m Tryz.prog 97 #[.slice p 0 cap] W fun e w' => e = .returned (.tuple #[]) ∧ w' = W)
set_option maxRecDepth 100000 in
set_option maxHeartbeats 2000000 in
theorem Tryz.sorted_in (F : Fence) (n : Nat) (h6 : F.fn 69) (h8 : F.fn 96) (h9 : F.fn 97) (h11 : F.fn 109) (hro : F.round = none) (hn : 4 ≤ n) (hsort : Tryz.SortsIn F (n - 1)) (g : Nat) (lb : Array Value) (hFg : F.fn g) (eg : ∀ args w, (callFunc g args).run Tryz.prog w = .ok (.enter g args) w)
    (S : List Int → Prop) (N : Nat) (hN : N ≤ maxLen) (hNb : N * 8 ≤ 140737488355328) (w : World) (hseq : SeqGives F (n - 1 - 1 - 1) Tryz.prog g lb encZ S N w) :
    CallsIn F n Tryz.prog 69 #[.func (.func g) #[] lb] w fun e w' => ∃ (v : Value) (ss : List Int), e = .returned v ∧ S ss ∧
      w'.ownsRow w.heap.size 3 1 v ss.length ((ss.mergeSort (fun x y => decide (x ≤ y))).map encZ) ∧ (v = .slice none 0 0 ↔ ss = []) ∧ Below w.heap.size w w' := by
  have h1 : 1 ≤ n := by omega
  refine callsIn_of_wp Tryz.func69 rfl h6 ?_ hro
  simp only [Tryz.ntmps69, List.size_toArray, List.length_cons, List.length_nil, Nat.reduceAdd, Nat.reduceSub, Array.replicate_succ, Array.replicate_zero, List.push_toArray, List.append_toArray, List.nil_append, List.cons_append]
  gi_wp2_with (gi_at_call 96; refine (Tryz.collect_in F (n - 1) h8 h11 hro (by omega) g lb hFg eg _ N hN hNb _ hseq.bounded).mono ?_; rintro e W ⟨v, ss, rfl, ⟨hS, hlen⟩, hrow, hnil, hb⟩)
  rcases hrow.2 with ⟨rfl, hz⟩ | ⟨gb, cap, cur, rfl, hbase, hgb, r1, r2, r3, r4⟩
  · 
    have hss : ss = [] := List.eq_nil_of_length_eq_zero hz
    subst hss
    gi_wp2_with (gi_at_call 97; refine (hsort.2 none 0 W).mono ?_; rintro e w' ⟨rfl, rfl⟩)
    go_ret
    exact ⟨.slice none 0 0, [], rfl, hS, by simpa using hrow, by simp, hb⟩
  · have hH : Holds encZ W gb 0 ss.toArray := holds_of_block_i hgb (by simpa using r4)
    have hgl : gb < W.heap.size := (Array.getElem?_eq_some_iff.1 hgb).1
    have hsz : ss.length < 4611686018427387904 := by omega
    have cS := hsort.1 gb 0 cap ss W hH hgl hsz
    gi_wp2_with (gi_at_call 97; refine cS.mono ?_; rintro e w' ⟨rfl, nn, os, rfl⟩)
    go_ret
    exact ⟨_, ss, rfl, hS, ownsRow_sorted_i (by simp) hbase hgb r1 r2 r3, hnil, hb.grown (grownBy_sorted_i _) hb.size (fun j hj => by cases hj; exact hbase)⟩
end Go.Proofs
namespace Go.Proofs.YtffenelcgjdbiaaGreatDoor
open Go Go.Sim Go.RowKit Go.Maps Go.Sort Go.WideElems
set_option maxRecDepth 100000
def anyR : Value → Option (DataW Unit × List MemPlace) := fun _ => some (.lit (.bool true), [])
theorem keyOf_int {n : Int} (h0 : 0 ≤ n) (h1 : n < 2 ^ 62) : keyOf Tryz.prog 3 (.int .i64 n) = some (.int .i64 n) := by
  simp [keyOf, mapKey, Tryz.underlying3, Lit.wf, IntKind.min, IntKind.max, IntKind.bits, IntKind.signed]
  omega
def idsL (l : List Cel) : List Int := (l.map fun x => (x.id : Int)).mergeSort fun x y => decide (x ≤ y)
theorem ids_entries {g : G} : ∀ {l : List Cel} {es : List MapEntry}, MR g (Celm l) es → es.map (·.key) = l.map fun x => Value.int .i64 (x.id : Int)
  | [], es, h => by rw [h.nil_left]; rfl
  | x :: l, es, h => by
    obtain ⟨e, es', rfl, h1, h2, h3⟩ := MR.cons_left (p := (.int .i64 x.id, x.v .unk)) (m := Celm l) h
    rw [List.map_cons, List.map_cons, ids_entries h3]
    congr 1
    generalize he : e.key = k at h1
    cases h1
    rfl
theorem own_cel {g : G} {w : World} {b cl : Nat} {es : Array MapEntry} {l : List Cel} (hb : w.heap[b]? = some (.map es cl)) (hm : MR g (Celm l) es.toList) (hs : MapKept.Stamped es cl)
    (hl : l.length ≤ 10000) (hid : ∀ x ∈ l, x.id ≤ 2147483647) :
    ∃ D : DataW Unit, w.ownsMap Tryz.prog 3 anyR b l.length D ∧ (intKeys D).Perm (l.map fun x => (x.id : Int)) ∧ Maps.size D = l.length := by
  have hk := ids_entries hm
  have hlen : es.size = l.length := by have := congrArg List.length hk; simpa using this
  have hrd : ∀ x ∈ es.toList, ∃ n : Int, x.key = .int .i64 n ∧ 0 ≤ n ∧ n < 2 ^ 62 := fun x hx => by
    have : x.key ∈ es.toList.map (·.key) := List.mem_map_of_mem hx
    rw [hk] at this
    obtain ⟨c, hc, e⟩ := List.mem_map.1 this
    have := hid c hc
    exact ⟨c.id, e.symm, by omega, by omega⟩
  have hrg : ∀ x ∈ es.toList, rg Tryz.prog 3 anyR x = ((match x.key with | .int _ n => Lit.int .i64 n | _ => Lit.bool false), DataW.lit (.bool true)) := fun x hx => by
    obtain ⟨n, e, h0, h1⟩ := hrd x hx
    exact WideElems.rg_of (by rw [WideElems.rd, e, keyOf_int h0 h1]; rfl)
  refine ⟨_, ⟨es, cl, hb, ⟨by rw [hlen]; show _ ≤ maxLen; unfold maxLen; omega, hs, fun x hx => ?_⟩, Nat.le_of_eq hlen, rfl⟩, ?_, ?_⟩
  · obtain ⟨n, e, h0, h1⟩ := hrd x hx
    exact ⟨_, by rw [WideElems.rd, e, keyOf_int h0 h1]; rfl⟩
  · show (((es.toList.map (rg Tryz.prog 3 anyR)).foldr DataW.insert []).map fun p => Go.intOf p.1).Perm _
    refine ((WideShapes.sorted_perm _).map _).trans ?_
    rw [List.map_map]
    have e : es.toList.map ((fun p => Go.intOf p.1) ∘ rg Tryz.prog 3 anyR) = (es.toList.map (·.key)).map fun k => match k with | .int _ n => n | _ => 0 := by
      rw [List.map_map]
      refine List.map_congr_left fun x hx => ?_
      obtain ⟨n, e, _, _⟩ := hrd x hx
      simp only [Function.comp_apply, hrg x hx, e]
      rfl
    rw [e, hk, List.map_map]
    exact List.Perm.refl _
  · show ((es.toList.map (rg Tryz.prog 3 anyR)).foldr DataW.insert []).length = _
    rw [(WideShapes.sorted_perm _).length_eq]; simpa using hlen
theorem sorts_wide (m : Nat) : Tryz.SortsIn Fence.wide m :=
  ⟨fun blk off cap ss W hH hblk hsz => callsIn_wide.2 (Any.slices_Sort_int Tryz.lays189 blk off cap ss W hH hblk hsz),
   fun p cap W => callsIn_wide.2 (Any.slices_Sort_int_none Tryz.lays189 p cap W)⟩
theorem Sorted_spec {l : List Cel} {bid mid : Nat} {st : St} (hb : st.cells bid = some [.map mid]) (hm : st.maps mid = some (Celm l)) (hl : l.length ≤ 10000) (hid : ∀ x ∈ l, x.id ≤ 2147483647) :
    RCall Tryz.prog F_slices_Sorted_int [.fn 98 [.ptr bid 0]] st fun r s => ∃ c, r = .ret (.lst 1 ((idsL l).map (V.int .i64)) c) ∧ s = st := by
  intro bn g w cargs hW hA
  obtain ⟨ba, cvs, e, fr, ho, hh, hfr, hlr, _⟩ := hW.cells _ _ hb
  obtain ⟨bm, es, cl, hom, hhm, hmr, hst⟩ := hW.maps _ _ hm
  obtain ⟨D, hown, hperm, hsize⟩ := own_cel hhm hmr hst hl hid
  have hcv : cvs = #[.map (some bm)] := by
    obtain ⟨h1, h2⟩ := hlr
    have hs : cvs.size = 1 := by simpa using h1.symm
    have h3 := h2 0 (.map mid) cvs[0] rfl (by simp)
    generalize hc : cvs[0] = c at h3
    cases h3 with
    | map hg =>
      rw [hom] at hg; cases hg
      apply Array.ext (by simp [hs])
      intro i hi1 hi2
      have : i = 0 := by omega
      subst this; simpa using hc
  have hca : cargs = #[.func (.func 98) #[] #[.pointer (some ⟨ba, 0, none⟩)]] := by
    obtain ⟨h1, h2⟩ := hA
    have hs : cargs.size = 1 := by simpa using h1.symm
    have h3 := h2 0 (.fn 98 [.ptr bid 0]) cargs[0] rfl (by simp)
    generalize hc : cargs[0] = c at h3
    cases h3 with
    | fn hl3 hr3 =>
      rename_i lb
      have hs4 : lb.size = 1 := by simpa using hl3.symm
      have h5 := hr3 0 (.ptr bid 0) lb[0] rfl (by simp)
      generalize hd : lb[0] = d at h5
      cases h5 with
      | ptr hg =>
        rw [ho] at hg; cases hg
        have e2 : lb = #[.pointer (some ⟨ba, 0, none⟩)] := Array.ext (by simp [hs4]) fun i hi1 hi2 => by
          have : i = 0 := by omega
          subst this; simpa using hd
        subst e2
        exact Array.ext (by simp [hs]) fun i hi1 hi2 => by
          have : i = 0 := by omega
          subst this; simpa using hc
  subst hca
  have hmx : Maps.size D ≤ maxLen := by rw [hsize]; unfold maxLen; omega
  have hcell : w.cell? ⟨ba, 0, none⟩ = some (.map (some bm)) := by simp [World.cell?, hh, hcv]
  have hseq := Tryz.keys_gives Fence.wide 2 trivial rfl (by omega) ba bm l.length D w (Array.getElem?_eq_some_iff.1 hh).1 hcell hown
  have hc := Tryz.sorted_in Fence.wide 5 trivial trivial trivial trivial rfl (by omega) (sorts_wide _) 98 #[.pointer (some ⟨ba, 0, none⟩)] trivial (enters_of Tryz.func98 (by kernel_rfl) rfl) _ _ hmx (by rw [hsize]; omega) w hseq
  refine (callsIn_wide.1 hc).mono ?_
  rintro e' w' ⟨v, ss, rfl, hS, hrow, _, hbelow⟩
  have hids : ss.mergeSort (fun x y => decide (x ≤ y)) = idsL l := mergeSort_of_perm_i (hS.trans hperm)
  rw [hids] at hrow
  obtain ⟨_, hrow | ⟨gb, cap, cur, rfl, hbase, hgb, r1, r2, r3, r4⟩⟩ := hrow
  · obtain ⟨rfl, hz⟩ := hrow
    have hss : ss = [] := List.eq_nil_of_length_eq_zero hz
    have he : idsL l = [] := by rw [← hids, hss]; simp
    obtain ⟨k1, k2⟩ := hW.grown hbelow w.heap.size (Nat.le_refl _) [] (fun j c hj => by cases hj)
    refine ⟨_, st, .ret (.lst 1 [] .nil), ?_, k1, k2, .nil, by rw [he]; rfl, rfl⟩
    exact .lst rfl (fun _ h => by cases h) (fun _ h => by cases h) ⟨rfl, rfl, rfl⟩ (cvs := []) (fun j c hj => by cases hj) rfl (fun i v c hi => by cases hi)
  · have hlen : (idsL l).length = ss.length := by rw [← hids]; simp
    rw [Nat.mul_one] at r4
    have hcv2 : ∀ (j : Nat) c, ((idsL l).map encZ)[j]? = some c → w'.cell? ⟨gb, j, none⟩ = some c := fun j c hj => by
      rw [← r4, List.getElem?_take] at hj
      split at hj
      · simpa [World.cell?, hgb] using hj
      · cases hj
    obtain ⟨k1, k2⟩ := hW.grown hbelow gb hbase ((idsL l).map encZ) hcv2
    have hfl : flat ((idsL l).map (V.int .i64)) = (idsL l).map (V.int .i64) := flat_ones1 (fun v hv => by obtain ⟨n, _, rfl⟩ := List.mem_map.1 hv; rfl)
    refine ⟨_, st, .ret (.lst 1 ((idsL l).map (V.int .i64)) .unk), ?_, k1, k2, .unk, rfl, rfl⟩
    refine .lst (by simp [hlen]) (fun v hv => by obtain ⟨n, _, rfl⟩ := List.mem_map.1 hv; rfl) (fun v hv => by rw [hfl] at hv; obtain ⟨n, _, rfl⟩ := List.mem_map.1 hv; rfl) ⟨.inr ⟨_, _, rfl⟩, r1⟩ (cvs := (idsL l).map encZ) (ImmB.withImm g gb _) (by rw [hfl]; simp) fun i v c hv hc => ?_
    rw [hfl, List.getElem?_map] at hv
    rw [List.getElem?_map] at hc
    cases hx : (idsL l)[i]? with
    | none => rw [hx] at hv; cases hv
    | some n => rw [hx] at hv hc; cases hv; cases hc; exact .int _ _
end Go.Proofs.YtffenelcgjdbiaaGreatDoor
namespace Go.Proofs.YtffenelcgjdbiaaGreatDoor
open Go Go.Sim
set_option maxRecDepth 100000
theorem IDs_spec {p : Nat} {x : Sta} (hl : x.l.length ≤ 10000) (hid : ∀ c ∈ x.l, c.id ≤ 2147483647) :
    Does Tryz.prog F_stsh_Stash_IDs [.ptr p 0] (StaA p x) fun r => ex fun c => pand (r = .ret (.lst 1 ((idsL x.l).map (V.int .i64)) c)) (StaA p x) := by
  intro st I h
  have nn := (Now.init h).emp
  obtain ⟨m, n0⟩ := stOpen nn
  refine w_stsh_Stash_IDs ?_
  refine ⟨_, ldv1 n0.cells rfl, ?_⟩
  refine w_maps_Keys_map_int_api_Cell_int_api_Cell ?_
  intro s2 h2
  refine ⟨_, _, rfl, ?_⟩
  have c2 : s2.cells st.next = some [.map m] := by rw [h2]; exact cells_new _ _
  have l2 : st.le s2 := by rw [h2]; exact (St.le.refl _).new _
  have n0' := n0.perm (B := mapA m (Celm x.l) * (cellA p (stC x m) * emp)) (by ac_rfl)
  refine (Sorted_spec c2 (n0'.le l2).maps hl hid).mono ?_
  rintro _ s3 ⟨c, rfl, rfl⟩
  exact ⟨_, _, rfl, (Now.toEx c (Now.toPand rfl (nn.le l2))).unemp⟩
def meetI (d a b : Nat) : Int := (d : Int) - bl (a ^^^ b)
def evStep (d leaf level z : Nat) (s : List Cel × List Cel) (id : Int) : List Cel × List Cel :=
  if s.1.length < z ∧ (level : Int) ≤ meetI d (celOr s.2 id).leaf leaf then (s.1 ++ [celOr s.2 id], delC s.2 id) else s
def evictL (d leaf level z : Nat) (l : List Cel) : List Cel × List Cel := (idsL l).foldl (evStep d leaf level z) ([], l)
theorem delC_sub {l : List Cel} {id : Int} {c : Cel} (h : c ∈ delC l id) : c ∈ l := by
  induction l with
  | nil => cases h
  | cons x r ih =>
    unfold delC at h
    split at h
    · exact List.mem_cons_of_mem _ h
    · rcases List.mem_cons.1 h with h | h
      · exact h ▸ List.mem_cons_self ..
      · exact List.mem_cons_of_mem _ (ih h)
theorem celOr_leaf {l : List Cel} {n : Nat} (h : ∀ c ∈ l, c.leaf < n) (hn : 0 < n) (id : Int) : (celOr l id).leaf < n := by
  unfold celOr
  cases e : look l id with
  | none => exact hn
  | some c => exact h c (List.mem_of_find?_eq_some e)
theorem Evict_spec {p d leaf level z : Nat} {x : Sta} (hd : d ≤ 16) (hf : leaf < 2 ^ d) (hv : level ≤ d) (hz : z ≤ 2 ^ 32) (hl : x.l.length ≤ 10000) (hid : ∀ c ∈ x.l, c.id ≤ 2147483647) (hlf : ∀ c ∈ x.l, c.leaf < 2 ^ d) :
    Does Tryz.prog F_stsh_Stash_Evict [.ptr p 0, .int .i64 (2 ^ d : Nat), .int .i64 leaf, .int .i64 level, .int .i64 z] (StaA p x)
      fun r => ex fun c => pand (r = .ret (.lst 3 (Cels (evictL d leaf level z x.l).1) c)) (StaA p ⟨x.most, x.size, (evictL d leaf level z x.l).2⟩) := by
  intro st I h
  have nn := (Now.init h).emp
  refine w_stsh_Stash_Evict ?_
  refine (At_spec hd hf level (by omega) st).mono ?_
  rintro _ s7 ⟨rfl, l7⟩
  rw [if_pos hv, decide_eq_true hv]
  refine ⟨_, _, rfl, fun h => (by cases h), fun _ => ?_⟩
  refine (IDs_spec hl hid).retEx (nn.le l7) ?_
  intro c12 s11 n11
  refine ⟨_, _, rfl, ?_⟩
  have hlen : ((idsL x.l).map (V.int .i64)).length = (idsL x.l).length := List.length_map _
  rw [hlen]
  have hil : (idsL x.l).length ≤ 10000 := by unfold idsL; rw [List.length_mergeSort, List.length_map]; exact hl
  refine ⟨fun n out c i s => ∃ (k : Nat) (q : List Cel × List Cel), i = k ∧ k ≤ (idsL x.l).length ∧ n = (idsL x.l).length - k ∧ q = ((idsL x.l).take k).foldl (evStep d leaf level z) ([], x.l) ∧ out = Cels q.1 ∧ (∀ e ∈ q.2, e ∈ x.l) ∧
      Now st I (StaA p ⟨x.most, x.size, q.2⟩ * (capA c * emp)) s,
    ⟨(idsL x.l).length, 0, ([], x.l), rfl, by omega, rfl, rfl, rfl, fun _ h => h, ((n11.own (Own.nil (.refl s11))).perm (by ac_rfl))⟩, ?_⟩
  rintro _ _ c13 _ s17 ⟨k, q, rfl, hk, rfl, hq, rfl, hsub, n17⟩
  refine br (fun hlt => ?_) fun hge => ?_
  · have hk' : k < (idsL x.l).length := by omega
    intro K46 h46
    have hstep : ((idsL x.l).take (k + 1)).foldl (evStep d leaf level z) ([], x.l) = evStep d leaf level z q (idsL x.l)[k] := by
      rw [List.take_succ_eq_append_getElem hk', List.foldl_append, ← hq]; rfl
    refine ⟨k, rfl, _, by rw [List.getElem?_map, List.getElem?_eq_getElem hk']; rfl, ?_⟩
    generalize (idsL x.l)[k] = id at hstep ⊢
    intro K29 h29
    have hleaf : (celOr q.2 id).leaf < 2 ^ d := celOr_leaf (fun e he => hlf e (hsub e he)) Nat.one_le_two_pow id
    have hno : ∀ s', evStep d leaf level z q id = q → Now st I (StaA p ⟨x.most, x.size, q.2⟩ * (capA c13 * emp)) s' → K29 false s' := fun s' he n' =>
      h29 _ _ ⟨fun h => (by cases h), fun _ => h46 _ _ _ ⟨(idsL x.l).length - (k + 1), by omega, k + 1, q, by rw [w64 (by omega)]; omega, by omega, rfl, by rw [hstep, he], rfl, hsub, n'⟩⟩
    rw [Cels_length]
    refine br (fun hz1 => ?_) fun hz1 => hno _ (by rw [evStep, if_neg (by omega)]) n17
    obtain ⟨m, n18⟩ := stOpen n17
    have n18' := n18.perm (B := mapA m (Celm q.2) * (cellA p (stC ⟨x.most, x.size, q.2⟩ m) * (capA c13 * emp))) (by ac_rfl)
    obtain ⟨cc, hk2⟩ := mlook_cel n18'.maps id
    refine ⟨_, ldv1 n18.cells rfl, _, _, _, _, _, hk2, ?_⟩
    refine (Meet_spec hd hleaf hf s17).mono ?_
    rintro _ s26 ⟨rfl, l26⟩
    refine ⟨_, rfl, ?_⟩
    have n26 := n17.le l26
    by_cases hm : (level : Int) ≤ meetI d (celOr q.2 id).leaf leaf
    · rw [show decide ((d : Int) - bl ((celOr q.2 id).leaf ^^^ leaf) ≥ (level : Int)) = true from decide_eq_true hm]
      have he : evStep d leaf level z q id = (q.1 ++ [celOr q.2 id], delC q.2 id) := by rw [evStep, if_pos ⟨by omega, hm⟩]
      refine h29 _ _ ⟨fun _ => ?_, fun h => (by cases h)⟩
      refine (StTake_spec id).retEx n26 ?_
      intro c35 s32 n32
      refine ⟨_, _, _, _, _, rfl, ?_⟩
      intro s37 h37
      have c37 : s37.cells s32.next = some [.int .i64 0, .int .i64 0, .lst 1 [] .nil] := by rw [h37]; exact cells_new _ _
      refine ⟨rfl, rfl, _, c37, by decide, ?_⟩
      rw [repl_three]
      intro s39 h39
      have c39 : s39.cells s32.next = some ((celOr q.2 id).cs c35) := by rw [h39]; exact cells_set c37
      have l39 : s32.le s39 := by rw [h39]; refine St.le.set ?_ (Nat.le_refl _) _; rw [h37]; exact (St.le.refl _).new _
      have n39 := (n32.le l39).perm (B := capA c13 * (StaA p ⟨x.most, x.size, delC q.2 id⟩ * emp)) (by ac_rfl)
      refine ⟨_, _, _, _, ldvg c39 rfl, ⟨n39.can, by rw [Cels_length]; omega⟩, ?_⟩
      intro c43 s44 ha
      have n44 := (n39.app ha).perm (B := StaA p ⟨x.most, x.size, delC q.2 id⟩ * (capA c43 * emp)) (by ac_rfl)
      refine h46 _ _ _ ⟨(idsL x.l).length - (k + 1), by omega, k + 1, (q.1 ++ [celOr q.2 id], delC q.2 id), by rw [w64 (by omega)]; omega, by omega, rfl, by rw [hstep, he], by rw [Cels_append]; rfl, fun e h => hsub e (delC_sub h), n44⟩
    · rw [show decide ((d : Int) - bl ((celOr q.2 id).leaf ^^^ leaf) ≥ (level : Int)) = false from decide_eq_false hm]
      exact hno _ (by rw [evStep, if_neg (fun h => hm h.2)]) n26
  · rw [List.take_of_length_le (by omega)] at hq
    have e : q = evictL d leaf level z x.l := hq
    subst e
    exact (Now.toEx c13 (Now.toPand rfl ((n17.perm (B := capA c13 * (StaA p ⟨x.most, x.size, (evictL d leaf level z x.l).2⟩ * emp)) (by ac_rfl)).drop))).unemp
end Go.Proofs.YtffenelcgjdbiaaGreatDoor
namespace Go.Proofs.YtffenelcgjdbiaaGreatDoor
open Go Go.Sim
set_option maxRecDepth 100000
def Uid (l : List Cel) : Prop := (l.map fun c => (c.id : Int)).Nodup
def srtL (l : List Cel) : List Cel := (idsL l).map (celOr l)
def stL (most size : Nat) (l : List Cel) : List UInt8 := putL l.length 4 ++ cellsL l ++ List.replicate ((most - l.length) * (8 + size)) 0
theorem look_mem {l : List Cel} (h : Uid l) {c : Cel} (hc : c ∈ l) : look l c.id = some c := by
  induction l with
  | nil => cases hc
  | cons x r ih =>
    unfold Uid at h
    rw [List.map_cons, List.nodup_cons] at h
    rw [look, List.find?_cons]
    rcases List.mem_cons.1 hc with rfl | hc
    · simp
    · have hne : (x.id : Int) ≠ c.id := fun e => h.1 (List.mem_map.2 ⟨c, hc, e.symm⟩)
      rw [decide_eq_false hne]
      exact ih h.2 hc
theorem look_some {l : List Cel} {id : Int} {c : Cel} (h : look l id = some c) : c ∈ l ∧ (c.id : Int) = id := by
  refine ⟨List.mem_of_find?_eq_some h, ?_⟩
  have := List.find?_some h
  simpa using this
theorem look_none {l : List Cel} {id : Int} (h : look l id = none) : ∀ c ∈ l, (c.id : Int) ≠ id := by
  intro c hc
  have := List.find?_eq_none.1 h c hc
  simpa using this
theorem celOr_mem {l : List Cel} (h : Uid l) {c : Cel} (hc : c ∈ l) : celOr l c.id = c := by unfold celOr; rw [look_mem h hc]; rfl
theorem idsL_perm (l : List Cel) : (idsL l).Perm (l.map fun c => (c.id : Int)) := List.mergeSort_perm _ _
theorem idsL_mem {l : List Cel} {id : Int} : id ∈ idsL l ↔ ∃ c ∈ l, (c.id : Int) = id := by
  rw [(idsL_perm l).mem_iff, List.mem_map]
theorem idsL_nodup {l : List Cel} (h : Uid l) : (idsL l).Nodup := (idsL_perm l).nodup_iff.2 h
theorem srtL_perm {l : List Cel} (h : Uid l) : (srtL l).Perm l := by
  refine ((idsL_perm l).map (celOr l)).trans ?_
  rw [List.map_map]
  have : l.map (celOr l ∘ fun c => (c.id : Int)) = l := by
    conv => rhs; rw [← List.map_id l]
    exact List.map_congr_left fun c hc => celOr_mem h hc
  rw [this]
theorem srtL_ids {l : List Cel} (h : Uid l) : (srtL l).map (fun c => (c.id : Int)) = idsL l := by
  rw [srtL, List.map_map]
  conv => rhs; rw [← List.map_id (idsL l)]
  refine List.map_congr_left fun id hid => ?_
  obtain ⟨c, hc, rfl⟩ := idsL_mem.1 hid
  show ((celOr l c.id).id : Int) = c.id
  rw [celOr_mem h hc]
@[simp] theorem srtL_length (l : List Cel) : (srtL l).length = l.length := by rw [srtL, List.length_map, (idsL_perm l).length_eq, List.length_map]
theorem putC_new {l : List Cel} {c : Cel} (h : ∀ x ∈ l, x.id ≠ c.id) : putC l c = l ++ [c] := by
  induction l with
  | nil => rfl
  | cons x r ih =>
    rw [putC, if_neg fun e => h x (List.mem_cons_self ..) e.symm, ih fun y hy => h y (List.mem_cons_of_mem _ hy)]; rfl
theorem long_spec {p : Nat} {x : Sta} {m : Nat} (hm : x.most ≤ 10000) (hs : x.size ≤ 60000) {st : St} (hc : st.cells p = some (stC x m)) :
    RCall Tryz.prog F_stsh_Stash_long [.ptr p 0] st fun r s => r = .ret (.int .i64 (4 + x.most * (8 + x.size) : Nat)) ∧ s = st := by
  refine w_stsh_Stash_long ⟨_, ldv1 hc rfl, _, ldv1 hc rfl, ?_⟩
  refine (Long_spec x.most x.size hm hs st).mono ?_
  rintro _ s ⟨rfl, rfl⟩
  have h := mul_le16 hm hs
  generalize x.most * (8 + x.size) = q at h
  refine ⟨_, rfl, ?_, rfl⟩
  rw [w64 (by omega)]
  congr 2
theorem StState_spec {p : Nat} {x : Sta} (ok : StaOk x) (hu : Uid x.l) : Does Tryz.prog F_stsh_Stash_State [.ptr p 0] (StaA p x) fun r => ex fun c => pand (r = .ret (.lst 1 (By (stL x.most x.size (srtL x.l))) c)) (StaA p x) := by
  intro st I h
  have nn := (Now.init h).emp
  obtain ⟨m0, n0⟩ := stOpen nn
  have n0' := n0.perm (B := mapA m0 (Celm x.l) * (cellA p (stC x m0) * emp)) (by ac_rfl)
  have hm := ok.most
  have hz := ok.size
  have hl := ok.long
  have hL := mul_le16 hm hz
  have hid : ∀ c ∈ x.l, c.id ≤ 2147483647 := fun c hc => (ok.ok c hc).id
  refine w_stsh_Stash_State ⟨_, ldv1 n0.cells rfl, _, n0'.maps, ?_⟩
  rw [Celm_length, wu64 (n := (x.l.length : Int)) (by omega)]
  refine (Put_spec x.l.length 4 (by decide) st).mono ?_
  rintro _ s5 ⟨c6, rfl, o5⟩
  refine ⟨_, _, rfl, ?_⟩
  refine (IDs_spec (by omega) hid).retEx (R := capA c6 * emp) ((nn.own o5).perm (by ac_rfl)) ?_
  intro c9 s8 n8
  refine ⟨_, _, rfl, ?_⟩
  have hlen : ((idsL x.l).map (V.int .i64)).length = x.l.length := by rw [List.length_map, (idsL_perm x.l).length_eq, List.length_map]
  have hil : (idsL x.l).length = x.l.length := by rw [(idsL_perm x.l).length_eq, List.length_map]
  rw [hlen]
  have hok : ∀ c ∈ srtL x.l, CelOk c x.size := fun c hc => ok.ok c ((srtL_perm hu).mem_iff.1 hc)
  have hcl : ∀ k, k ≤ x.l.length → (cellsL ((srtL x.l).take k)).length = k * (8 + x.size) := fun k hk => by
    rw [cellsL_length fun c hc => hok c (List.mem_of_mem_take hc), List.length_take, srtL_length, Nat.min_eq_left hk]
  have hkz : ∀ k, k ≤ x.most → k * (8 + x.size) ≤ x.most * (8 + x.size) := fun k h => Nat.mul_le_mul_right _ h
  refine ⟨fun n out c i s => ∃ k : Nat, i = k ∧ k ≤ x.l.length ∧ n = x.l.length - k ∧ out = By (putL x.l.length 4 ++ cellsL ((srtL x.l).take k)) ∧ Now st I (StaA p x * (capA c * emp)) s,
    ⟨x.l.length, 0, rfl, by omega, rfl, by rw [List.take_zero, cellsL, List.flatMap_nil, List.append_nil], n8⟩, ?_⟩
  rintro _ _ c10 _ s14 ⟨k, rfl, hk, rfl, rfl, n14⟩
  refine br (fun hlt => ?_) fun hge => ?_
  · have hk' : k < x.l.length := by omega
    have hk1 : k < (idsL x.l).length := by omega
    have hks : k < (srtL x.l).length := by rw [srtL_length]; exact hk'
    refine ⟨k, rfl, _, by rw [List.getElem?_map, List.getElem?_eq_getElem hk1]; rfl, ?_⟩
    obtain ⟨m, n15⟩ := stOpen n14
    have n15' := n15.perm (B := mapA m (Celm x.l) * (cellA p (stC x m) * (capA c10 * emp))) (by ac_rfl)
    obtain ⟨cc, hk2⟩ := mlook_cel n15'.maps (idsL x.l)[k]
    refine ⟨_, ldv1 n15.cells rfl, _, _, _, _, _, hk2, ?_⟩
    have ec : celOr x.l (idsL x.l)[k] = (srtL x.l)[k] := by simp only [srtL, List.getElem_map]
    rw [ec]
    have ho := hok _ (List.getElem_mem hks)
    refine (Bytes_spec (srtL x.l)[k] cc ho hz s14).mono ?_
    rintro _ s23 ⟨c24, rfl, o23⟩
    have n23 := (n14.le o23.le).perm (B := capA c10 * (StaA p x * emp)) (by ac_rfl)
    have hb := hkz (k + 1) (by omega)
    have hb2 : (bytesL (srtL x.l)[k]).length = 8 + x.size := by rw [bytesL_length, ho.long]
    have hb3 : (k + 1) * (8 + x.size) = k * (8 + x.size) + (8 + x.size) := by rw [Nat.add_mul, Nat.one_mul]
    refine ⟨_, _, rfl, ⟨n23.can, by rw [By_length, By_length, List.length_append, hcl k hk, hb2, putL_len]; omega⟩, ?_⟩
    intro c25 s26 ha
    have n26 := (n23.app ha).perm (B := StaA p x * (capA c25 * emp)) (by ac_rfl)
    refine ⟨x.l.length - (k + 1), by omega, k + 1, by rw [w64 (by omega)]; omega, by omega, rfl, ?_, n26⟩
    rw [← By_append, cellsL_step hks, List.append_assoc]
  · have hkk : k = x.l.length := by omega
    subst hkk
    obtain ⟨m, n15⟩ := stOpen n14
    refine (long_spec hm hz n15.cells).mono ?_
    rintro _ s29 ⟨rfl, rfl⟩
    have e1 : (srtL x.l).take x.l.length = srtL x.l := List.take_of_length_le (by rw [srtL_length]; exact Nat.le_refl _)
    have hc2 := hcl x.l.length (Nat.le_refl _)
    rw [e1] at hc2 ⊢
    have hb := hkz x.l.length hl
    have e2 : (x.most - x.l.length) * (8 + x.size) = x.most * (8 + x.size) - x.l.length * (8 + x.size) := Nat.sub_mul ..
    have hst : stL x.most x.size (srtL x.l) = putL x.l.length 4 ++ cellsL (srtL x.l) ++ List.replicate ((x.most - x.l.length) * (8 + x.size)) 0 := by rw [stL, srtL_length]
    rw [hst, e2]
    generalize x.most * (8 + x.size) = L at hL hb e2 ⊢
    have n16 := n14.perm (B := capA c10 * (StaA p x * emp)) (by ac_rfl)
    have hlen2 : (By (putL x.l.length 4 ++ cellsL (srtL x.l))).length = 4 + x.l.length * (8 + x.size) := by rw [By_length, List.length_append, hc2, putL_len]
    rw [hlen2]
    generalize x.l.length * (8 + x.size) = q at *
    refine ⟨_, rfl, L - q, by rw [w64 (by omega)]; omega, ⟨n16.can, by omega⟩, ?_⟩
    intro c32 s33 ha
    rw [By_rep] at ha ⊢
    rw [← By_append]
    exact (Now.toEx c32 (Now.toPand rfl (n16.app ha).drop)).unemp
theorem stL_length {l : List Cel} {most size : Nat} (hl : l.length ≤ most) (ok : ∀ c ∈ l, CelOk c size) : (stL most size l).length = 4 + most * (8 + size) := by
  rw [stL, List.length_append, List.length_append, putL_len, cellsL_length ok, List.length_replicate, Nat.sub_mul]
  have := Nat.mul_le_mul_right (8 + size) hl
  omega
end Go.Proofs.YtffenelcgjdbiaaGreatDoor
namespace Go.Proofs.YtffenelcgjdbiaaGreatDoor
open Go Go.Sim
set_option maxRecDepth 100000
theorem unpad_pad {b : List UInt8} {most : Nat} (h : b.length ≤ most) (hm : most ≤ 60000) : unpadO (padL b most) most = some b := by
  unfold unpadO
  rw [if_pos ⟨by omega, by omega⟩, Int.toNat_natCast]
  unfold unpadL
  have e1 : (padL b most).take 2 = putL b.length 2 := by rw [padL, List.append_assoc, List.take_left' (by simp)]
  have e2 : getL ((padL b most).take 2) = b.length := by rw [e1]; exact get_putL _ _ (by omega)
  have e3 : (putL b.length 2 ++ b).length = 2 + b.length := by simp
  simp only [e2]
  rw [if_pos ⟨padL_len h, h, by rw [padL, List.drop_left' e3]; simp⟩, padL, List.take_left' e3, List.drop_left' (by simp)]
theorem headL_len (boot seq : Nat) : (headL boot seq).length = 12 := by simp [headL]
theorem sealL_len {key plain : List UInt8} {boot seq size : Nat} (h : plain.length + 22 ≤ size) : (sealL key boot seq plain size).length = size := by
  unfold sealL
  simp only [List.length_append, headL_len, xorL_len, padL_len (show plain.length ≤ size - 22 by omega), putL_len]
  omega
theorem open_seal {key plain : List UInt8} {boot seq size : Nat} (h : plain.length + 22 ≤ size) (hs : size - 22 ≤ 60000) : (openL key (sealL key boot seq plain size)).map (·.1) = some plain := by
  have hl := sealL_len (key := key) (boot := boot) (seq := seq) h
  unfold openL
  simp only [hl]
  rw [if_pos (by omega)]
  have hp : (padL plain (size - 22)).length = size - 22 + 2 := padL_len (by omega)
  have e1 : (sealL key boot seq plain size).take 12 = headL boot seq := by unfold sealL; exact List.take_left' (headL_len _ _)
  have e2 : (sealL key boot seq plain size).drop 12 = xorL key (headL boot seq) 0 (padL plain (size - 22) ++ putL (sumL basis (headL boot seq ++ padL plain (size - 22))) 8) := by
    unfold sealL; exact List.drop_left' (headL_len _ _)
  rw [e1, e2, xor_twice]
  generalize hS : sumL basis (headL boot seq ++ padL plain (size - 22)) = S
  have e3 : (padL plain (size - 22) ++ putL S 8).length - 8 = (padL plain (size - 22)).length := by rw [List.length_append, putL_len]; omega
  rw [e3, List.take_left' rfl, List.drop_left' rfl, show ((size : Int) - 22) = ((size - 22 : Nat) : Int) by omega, unpad_pad (by omega) hs, hS]
  simp
theorem block_write_eq {x : Dk} {n : Int} {b : List UInt8} (h : x.has n = true) : (x.write n b).block n = fitL x.size b := by
  have h' : (x.write n b).has n = true := h
  unfold Dk.block
  rw [if_pos h']
  simp only [Dk.write, h, true_and, if_true]
theorem block_write_ne {x : Dk} {n i : Int} {b : List UInt8} (h : i ≠ n) : (x.write n b).block i = x.block i := by
  have h' : (x.write n b).has i = x.has i := rfl
  unfold Dk.block
  rw [h']
  simp only [Dk.write, h, and_false, if_false]
def Bk.tr (x : Bk) : List (Int × Int) := x.pn.dk.trace.map fun e => (e.kind, e.at_.tdiv 2)
structure BkR (x : Bk) (m n z size : Nat) (B : Nat → List Cel) : Prop where
  key : x.pn.key.length = 32
  boot : x.pn.boot < 2 ^ 32
  seq : x.pn.seq ≤ m
  trace : x.pn.dk.trace.length ≤ m
  base : x.base = 0
  len : x.l.length = n
  small : n ≤ 100000
  fit : z * (8 + size) ≤ 50000
  blocks : x.pn.dk.blocks = 2 * n
  dsz : x.pn.dk.size = 22 + z * (8 + size)
  ev : ∀ e ∈ x.pn.dk.trace, EvOk e
  cont : ∀ k < n, (x.readO k = none ∧ B k = []) ∨ x.readO k = some (codeL (B k) z size)
  room : ∀ k < n, (B k).length ≤ z
  ok : ∀ k < n, ∀ c ∈ B k, CelOk c size
theorem BkR.bkOk {x : Bk} {m n z size : Nat} {B : Nat → List Cel} (h : BkR x m n z size B) (hm : m ≤ 2 ^ 40) : BkOk x :=
  ⟨⟨h.key, h.boot, by have := h.seq; omega, by have := h.dsz; have := h.fit; omega, by have := h.trace; omega⟩, by rw [h.base]; decide, by rw [h.len]; exact h.small⟩
theorem evOk_read {x : Dk} (n : Int) : EvOk ⟨1, n, head12 (x.block n), []⟩ := ⟨head12_length _, Nat.zero_le _⟩
theorem BkR.read {x : Bk} {m n z size : Nat} {B : Nat → List Cel} (h : BkR x m n z size B) (k : Nat) : BkR (x.read k) (m + 1) n z size B := by
  refine ⟨h.key, h.boot, Nat.le_succ_of_le h.seq, ?_, h.base, h.len, h.small, h.fit, h.blocks, h.dsz, ?_, h.cont, h.room, h.ok⟩
  · show (x.pn.dk.trace ++ [_]).length ≤ _
    have := h.trace
    rw [List.length_append]; simpa using this
  · intro e he
    rcases List.mem_append.1 he with he | he
    · exact h.ev e he
    · rw [List.mem_singleton] at he; subst he; exact evOk_read _
theorem BkR.tr_read {x : Bk} {m n z size : Nat} {B : Nat → List Cel} (h : BkR x m n z size B) (k : Nat) : (x.read k).tr = x.tr ++ [(1, (k : Int))] := by
  show (x.pn.dk.trace ++ [_]).map _ = _
  rw [List.map_append]
  congr 1
  show [((1 : Int), ((x.cur k : Nat) : Int).tdiv 2)] = _
  have e : ((x.cur k : Nat) : Int).tdiv 2 = ((x.cur k / 2 : Nat) : Int) := rfl
  rw [e, show x.cur k / 2 = k by unfold Bk.cur Bk.blk; rw [h.base]; split <;> omega]
theorem BkR.mono {x : Bk} {m m' n z size : Nat} {B : Nat → List Cel} (h : BkR x m n z size B) (hm : m ≤ m') : BkR x m' n z size B :=
  ⟨h.key, h.boot, Nat.le_trans h.seq hm, Nat.le_trans h.trace hm, h.base, h.len, h.small, h.fit, h.blocks, h.dsz, h.ev, h.cont, h.room, h.ok⟩
theorem BkR.congr {x : Bk} {m n z size : Nat} {B B' : Nat → List Cel} (h : BkR x m n z size B) (e : ∀ k < n, B' k = B k) : BkR x m n z size B' :=
  ⟨h.key, h.boot, h.seq, h.trace, h.base, h.len, h.small, h.fit, h.blocks, h.dsz, h.ev, fun k hk => by rw [e k hk]; exact h.cont k hk, fun k hk => by rw [e k hk]; exact h.room k hk, fun k hk => by rw [e k hk]; exact h.ok k hk⟩
def updB (B : Nat → List Cel) (k : Nat) (l : List Cel) : Nat → List Cel := fun i => if i = k then l else B i
theorem BkR.write {x : Bk} {m n z size : Nat} {B : Nat → List Cel} (h : BkR x m n z size B) {k : Nat} (hk : k < n) {l : List Cel} (hl : l.length ≤ z) (ok : ∀ c ∈ l, CelOk c size) :
    (x.write k (codeL l z size)).2 = true ∧ BkR (x.write k (codeL l z size)).1 (m + 1) n z size (updB B k l) ∧ (x.write k (codeL l z size)).1.tr = x.tr ++ [(2, (k : Int))] := by
  have hcl := codeL_length hl ok
  have hk' : k < x.l.length := by rw [h.len]; exact hk
  have hfit := h.fit
  have hs : x.pn.dk.size = 22 + z * (8 + size) := h.dsz
  have hat : x.at' k = x.l[k] := by simp [Bk.at', hk']
  have hw : x.pn.write (x.blk k !(x.at' k).1) (codeL l z size) = ({ x.pn with seq := x.pn.seq + 1, dk := x.pn.dk.write (x.blk k !(x.at' k).1) (sealL x.pn.key x.pn.boot x.pn.seq (codeL l z size) x.pn.dk.size) }, true) := by
    unfold Pn.write sealO
    rw [if_pos ⟨by omega, by omega, by omega⟩]
  have hsl : (sealL x.pn.key x.pn.boot x.pn.seq (codeL l z size) x.pn.dk.size).length = x.pn.dk.size := sealL_len (by omega)
  have hos : (openL x.pn.key (sealL x.pn.key x.pn.boot x.pn.seq (codeL l z size) x.pn.dk.size)).map (·.1) = some (codeL l z size) := open_seal (by omega) (by omega)
  generalize sealL x.pn.key x.pn.boot x.pn.seq (codeL l z size) x.pn.dk.size = S at hw hsl hos
  have hfitS : fitL x.pn.dk.size S = S := by unfold fitL; rw [← hsl, Nat.sub_self, List.take_length]; simp
  have hx : x.write k (codeL l z size) = ({ x with pn := { x.pn with seq := x.pn.seq + 1, dk := x.pn.dk.write (x.blk k !(x.at' k).1) S }, l := x.l.set k ((x.at' k).1, true) }, true) := by
    unfold Bk.write
    rw [hw]
    rfl
  rw [hx]
  have hb2 : ∀ b, x.blk k b / 2 = k := fun b => by unfold Bk.blk; rw [h.base]; split <;> omega
  refine ⟨rfl, ⟨h.key, h.boot, by show x.pn.seq + 1 ≤ _; have := h.seq; omega, ?_, h.base, by show (x.l.set _ _).length = n; rw [List.length_set, h.len], h.small, h.fit, h.blocks, h.dsz, ?_, ?_, ?_, ?_⟩, ?_⟩
  · show (x.pn.dk.trace ++ [_]).length ≤ _
    have := h.trace
    rw [List.length_append]; simpa using this
  · intro e he
    rcases List.mem_append.1 he with he | he
    · exact h.ev e he
    · rw [List.mem_singleton] at he; subst he
      exact ⟨head12_length _, by show (fitL _ S).length ≤ _; rw [hfitS, hsl]; omega⟩
  · intro j hj
    have hj' : j < x.l.length := by rw [h.len]; exact hj
    by_cases hjk : j = k
    · subst hjk
      right
      simp only [updB, if_true]
      show (openL x.pn.key ((x.pn.dk.write (x.blk j !(x.at' j).1) S).block (Bk.cur _ j))).map (·.1) = _
      have ecur : Bk.cur { x with pn := { x.pn with seq := x.pn.seq + 1, dk := x.pn.dk.write (x.blk j !(x.at' j).1) S }, l := x.l.set j ((x.at' j).1, true) } j = x.blk j !(x.at' j).1 := by
        simp only [Bk.cur, Bk.at', Bk.blk, List.getD_eq_getElem?_getD, List.getElem?_set_self hj', Option.getD_some, List.getElem?_eq_getElem hj']
        cases x.l[j].1 <;> rfl
      rw [ecur]
      have hhas : x.pn.dk.has (x.blk j !(x.at' j).1 : Nat) = true := by
        unfold Dk.has
        rw [decide_eq_true_eq, h.blocks]
        have := hb2 !(x.at' j).1
        omega
      have hblk : (x.pn.dk.write (x.blk j !(x.at' j).1) S).block (x.blk j !(x.at' j).1 : Nat) = S := by
        rw [block_write_eq hhas, hfitS]
      rw [hblk]
      exact hos
    · have e1 : updB B k l j = B j := by simp only [updB, if_neg hjk]
      rw [e1]
      have e2 : Bk.readO { x with pn := { x.pn with seq := x.pn.seq + 1, dk := x.pn.dk.write (x.blk k !(x.at' k).1) S }, l := x.l.set k ((x.at' k).1, true) } j = x.readO j := by
        have ecur : Bk.cur { x with pn := { x.pn with seq := x.pn.seq + 1, dk := x.pn.dk.write (x.blk k !(x.at' k).1) S }, l := x.l.set k ((x.at' k).1, true) } j = x.cur j := by
          simp only [Bk.cur, Bk.at', Bk.blk, List.getD_eq_getElem?_getD, List.getElem?_set_ne (fun e => hjk e.symm)]
        show (openL x.pn.key ((x.pn.dk.write (x.blk k !(x.at' k).1) S).block (Bk.cur _ j))).map (·.1) = (openL x.pn.key (x.pn.dk.block (x.cur j))).map (·.1)
        rw [ecur]
        have hne : x.cur j ≠ x.blk k !(x.at' k).1 := fun e => by
          have h1 := hb2 !(x.at' k).1
          have h2 : x.cur j / 2 = j := by unfold Bk.cur Bk.blk; rw [h.base]; split <;> omega
          rw [e, h1] at h2
          exact hjk h2.symm
        have hblk : (x.pn.dk.write (x.blk k !(x.at' k).1) S).block (x.cur j : Nat) = x.pn.dk.block (x.cur j : Nat) := by
          exact block_write_ne fun e => hne (by omega)
        rw [hblk]
      rw [e2]
      exact h.cont j hj
  · intro j hj
    unfold updB
    split
    · exact hl
    · exact h.room j hj
  · intro j hj
    unfold updB
    split
    · exact ok
    · exact h.ok j hj
  · show (x.pn.dk.trace ++ [_]).map _ = _
    rw [List.map_append]
    congr 1
    show [((2 : Int), ((x.blk k !(x.at' k).1 : Nat) : Int).tdiv 2)] = _
    have e : ((x.blk k !(x.at' k).1 : Nat) : Int).tdiv 2 = ((x.blk k (!(x.at' k).1) / 2 : Nat) : Int) := rfl
    rw [e, hb2]
end Go.Proofs.YtffenelcgjdbiaaGreatDoor
