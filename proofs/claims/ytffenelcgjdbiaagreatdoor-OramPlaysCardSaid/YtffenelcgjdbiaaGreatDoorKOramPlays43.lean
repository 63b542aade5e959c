/- Merged by a program of mine (pack.py) out of my own texts; what is not used is left out. -/
import Derived.Test.YtffenelcgjdbiaaGreatDoorKOramPlays42
set_option linter.unusedVariables false
set_option linter.unusedSimpArgs false
namespace Go.Proofs.YtffenelcgjdbiaaGreatDoor
open Go Go.Sim
set_option maxRecDepth 100000
def putL (n : Nat) : Nat → List UInt8
  | 0 => []
  | k + 1 => UInt8.ofNat n :: putL (n / 256) k
theorem putL_succ (n k : Nat) : putL n (k + 1) = putL n k ++ [UInt8.ofNat (n / 256 ^ k)] := by
  induction k generalizing n with
  | zero => simp [putL]
  | succ k ih =>
    rw [putL, ih (n / 256)]
    simp only [putL, List.cons_append, Nat.div_div_eq_div_mul, Nat.pow_succ, Nat.mul_comm]
@[simp] theorem putL_len (n k : Nat) : (putL n k).length = k := by
  induction k generalizing n with
  | zero => rfl
  | succ k ih => simp [putL, ih]
theorem Put_spec (n size : Nat) (hs : size ≤ 8) : Makes Tryz.prog F_le_Put [.int .u64 n, .int .i64 size] 1 (By (putL n size)) := by
  intro st
  refine w_le_Put ?_
  intro K hK
  have key : K false st := by
    refine hK _ _ ⟨fun h => (by cases h), fun _ => ?_⟩
    refine ⟨fun m n' out c i st' => ∃ k : Nat, i = k ∧ k ≤ size ∧ m = size - k ∧ n' = ((n / 256 ^ k : Nat) : Int) ∧ out = By (putL n k) ∧ Own st st' c, ⟨size, 0, rfl, by omega, by omega, by simp, rfl, Own.nil (.refl st)⟩, ?_⟩
    rintro m _ _ c _ st1 ⟨k, rfl, hk, rfl, rfl, rfl, ho⟩
    refine br (fun hlt => ⟨ho.has (by simp; omega), fun c' st' ha => ⟨_, ?_, k + 1, ?_, by omega, rfl, ?_, ?_, ho.app ha⟩⟩) fun hge => ?_
    · omega
    · rw [w64 (by omega)]; omega
    · rw [fdiv_pow, Nat.div_div_eq_div_mul, show 256 ^ k * 2 ^ 8 = 256 ^ (k + 1) from (Nat.pow_succ (n := 256) (m := k)).symm]
    · rw [putL_succ, By_append, wrap_u8_of]; rfl
    · have : k = size := by omega
      subst this
      exact ⟨c, rfl, ho⟩
  refine br' (fun _ => ?_) fun h => by omega
  have : decide ((size : Int) > 8) = false := by simp; omega
  rw [this]; exact key
def getL : List UInt8 → Nat
  | [] => 0
  | x :: r => x.toNat + 256 * getL r
theorem or_shift (a b : Nat) (h : b < 256) : (a * 256) ||| b = a * 256 + b := by
  have := Nat.shiftLeft_add_eq_or_of_lt (i := 8) (b := b) (by simpa using h) a
  rw [Nat.shiftLeft_eq] at this
  simpa using this.symm
theorem getL_lt (l : List UInt8) : getL l < 256 ^ l.length := by
  induction l with
  | nil => simp [getL]
  | cons x r ih =>
    have h2 := x.toNat_lt
    simp only [getL, List.length_cons, Nat.pow_succ]
    omega
theorem getL_lt64 (l : List UInt8) (h : l.length ≤ 8) : getL l < 2 ^ 64 :=
  Nat.lt_of_lt_of_le (getL_lt l) (Nat.pow_le_pow_right (n := 256) (by omega) h)
theorem Get_spec (bs : List UInt8) (c : Cap) (hl : bs.length ≤ 8) : Gives Tryz.prog F_le_Get [.lst 1 (By bs) c] (.int .u64 (getL bs)) := by
  intro st
  refine w_le_Get ?_
  refine ⟨fun m out i st' => ∃ k : Nat, i = (k : Int) - 1 ∧ k ≤ bs.length ∧ m = k ∧ out = (getL (bs.drop k) : Int) ∧ st' = st, ⟨bs.length, bs.length, ?_, by omega, rfl, by simp [getL], rfl⟩, ?_⟩
  · simp only [By_length]
    rw [Int.min_eq_left (by omega), w64 (by omega)]
  rintro k _ _ st1 ⟨_, rfl, hk, rfl, rfl, rfl⟩
  refine br (fun hge => ?_) fun hlt => ?_
  · obtain ⟨j, rfl⟩ : ∃ j, k = j + 1 := ⟨k - 1, by omega⟩
    have hj : j < bs.length := by omega
    refine ⟨j, by omega, _, By_get hj, j, by omega, j, ?_, by omega, rfl, ?_, rfl⟩
    · rw [w64 (by omega)]; omega
    · have hG : getL (bs.drop (j + 1)) < 256 ^ 7 := Nat.lt_of_lt_of_le (getL_lt _) (Nat.pow_le_pow_right (by omega) (by simp; omega))
      have hx := bs[j].toNat_lt
      rw [List.drop_eq_getElem_cons hj]
      simp only [getL]
      generalize getL (bs.drop (j + 1)) = G at hG ⊢
      have h7 : (256 : Nat) ^ 7 = 72057594037927936 := by decide
      rw [h7] at hG
      rw [wu64 (n := (G : Int) * 2 ^ 8) (by omega), wu64 (n := (bs[j].toNat : Int)) (by omega)]
      rw [show (G : Int) * 2 ^ 8 = ((G * 256 : Nat) : Int) by omega, or_64 _ _ (by omega) (by omega), or_shift _ _ hx]
      omega
  · have : k = 0 := by omega
    subst this
    exact ⟨by simp, .refl _⟩
theorem Zero_spec (bs : List UInt8) (c : Cap) (hl : bs.length < 2 ^ 62) : Gives Tryz.prog F_le_Zero [.lst 1 (By bs) c] (.bool (bs.all (· == 0))) := by
  intro st
  refine w_le_Zero ?_
  refine ⟨fun m i st' => ∃ k : Nat, i = k ∧ k ≤ bs.length ∧ m = bs.length - k ∧ (bs.take k).all (· == 0) = true ∧ st' = st, ⟨bs.length, 0, rfl, by omega, by omega, by simp, rfl⟩, ?_⟩
  rintro m _ st1 ⟨k, rfl, hk, rfl, hz, rfl⟩
  rw [By_length]
  refine br (fun hlt => ?_) fun hge => ?_
  · have hlt' : k < bs.length := by omega
    refine ⟨k, rfl, _, By_get hlt', brne (fun hne => ⟨?_, .refl _⟩) fun he => ⟨bs.length - (k + 1), by omega, k + 1, ?_, by omega, rfl, ?_, rfl⟩⟩
    · have : bs.all (· == 0) = false := by
        rw [List.all_eq_false]
        exact ⟨bs[k], List.getElem_mem hlt', by
          simp only [beq_iff_eq]
          intro h; apply hne; rw [h]; rfl⟩
      rw [this]
    · rw [w64 (by omega)]; omega
    · rw [List.take_succ_eq_append_getElem hlt', List.all_append, hz]
      have : bs[k] = 0 := UInt8.toNat_inj.1 (by simpa using he)
      simp [this]
  · have : bs.take k = bs := List.take_of_length_le (by omega)
    rw [this] at hz
    exact ⟨by rw [hz], .refl _⟩
def padL (b : List UInt8) (most : Nat) : List UInt8 := putL b.length 2 ++ b ++ List.replicate (most - b.length) 0
@[simp] theorem padL_len {b : List UInt8} {most : Nat} (h : b.length ≤ most) : (padL b most).length = most + 2 := by simp [padL]; omega
def RetO (st : St) (r : Res) (st' : St) (o : Option (List UInt8)) : Prop :=
  match o with
  | some x => ∃ c', r = .ret (.tup [.lst 1 (By x) c', .bool true]) ∧ Own st st' c'
  | none => r = .ret (.tup [.lst 1 [] .nil, .bool false]) ∧ st.le st'
def padO (b : List UInt8) (most : Int) : Option (List UInt8) := if 0 ≤ most ∧ most ≤ 60000 ∧ b.length ≤ most then some (padL b most.toNat) else none
theorem Pad_spec (b : List UInt8) (c : Cap) (most : Int) (st : St) : RCall Tryz.prog F_le_Pad [.lst 1 (By b) c, .int .i64 most] st fun r st' => RetO st r st' (padO b most) := by
  refine w_le_Pad ?_
  rw [By_length]
  intro K hK
  have bad : padO b most = none → K true st := fun hn => hK _ _ fun K7 h7 => ⟨fun h => (by cases h), fun _ => h7 _ _ ⟨fun _ => by rw [hn]; exact ⟨rfl, .refl _⟩, fun h => (by cases h)⟩⟩
  refine br' (fun h0 => ?_) fun h0 => bad (by unfold padO; rw [if_neg (by omega)])
  refine hK _ _ fun K7 h7 => ⟨fun h => ?_, fun h => ?_⟩
  · have h1 := of_decide_eq_false h
    refine h7 _ _ ⟨fun h2 => ?_, fun h2 => ?_⟩
    · have h2 := of_decide_eq_true h2
      rw [show padO b most = none by unfold padO; rw [if_neg (by omega)]]; exact ⟨rfl, .refl _⟩
    · have h2 := of_decide_eq_false h2
      rw [show padO b most = some (padL b most.toNat) by unfold padO; rw [if_pos (by omega)], wu64 (by omega)]
      refine (Put_spec b.length 2 (by omega) st).mono ?_
      rintro _ st1 ⟨c1, rfl, ho⟩
      refine ⟨_, _, rfl, ho.has (by simp; omega), fun c2 st2 ha => ?_⟩
      have ho2 := ho.app ha
      refine ⟨(most - b.length).toNat, by rw [w64 (by omega)]; omega, ho2.has (by simp; omega), fun c3 st3 hb => ⟨c3, ?_, ho2.app hb⟩⟩
      rw [By_rep, ← By_append, ← By_append, padL]
      rw [show (most - (b.length : Int)).toNat = most.toNat - b.length by omega]
  · have h1 := of_decide_eq_true h
    exact h7 _ _ ⟨fun _ => by rw [show padO b most = none by unfold padO; rw [if_neg (by omega)]]; exact ⟨rfl, .refl _⟩, fun h => (by cases h)⟩
def unpadL (b : List UInt8) (most : Nat) : Option (List UInt8) :=
  let n := getL (b.take 2)
  if b.length = most + 2 ∧ n ≤ most ∧ (b.drop (2 + n)).all (· == 0) = true then some ((b.take (2 + n)).drop 2) else none
def unpadO (b : List UInt8) (most : Int) : Option (List UInt8) := if 0 ≤ most ∧ most ≤ 60000 then unpadL b most.toNat else none
theorem Unpad_spec (b : List UInt8) (c : Cap) (most : Int) (hb : b.length < 2 ^ 40) (st : St) : RCall Tryz.prog F_le_Unpad [.lst 1 (By b) c, .int .i64 most] st fun r st' => RetO st r st' (unpadO b most) := by
  refine w_le_Unpad ?_
  rw [By_length]
  intro K hK
  have bad : unpadO b most = none → K true st := fun hn => hK _ _ fun K7 h7 => ⟨fun h => (by cases h), fun _ => h7 _ _ ⟨fun _ => by rw [hn]; exact ⟨rfl, .refl _⟩, fun h => (by cases h)⟩⟩
  refine br' (fun h0 => ?_) fun h0 => bad (by unfold unpadO; rw [if_neg (by omega)])
  refine hK _ _ fun K7 h7 => ⟨fun h => ?_, fun h => ?_⟩
  · have h1 := of_decide_eq_false h
    refine h7 _ _ ⟨fun h2 => ?_, fun h2 => ?_⟩
    · rw [w64 (by omega)] at h2
      have h2 : (b.length : Int) ≠ most + 2 := by simpa using h2
      rw [show unpadO b most = none by unfold unpadO unpadL; rw [if_pos (by omega)]; simp only; rw [if_neg (by omega)]]
      exact ⟨rfl, .refl _⟩
    · rw [w64 (by omega)] at h2
      have h2 : (b.length : Int) = most + 2 := by simpa using h2
      refine ⟨2, rfl, by omega, ?_⟩
      rw [By_take]
      refine (Get_spec (b.take 2) _ (by simp; omega) st).mono ?_
      rintro _ st1 ⟨rfl, hle⟩
      refine ⟨_, rfl, ?_⟩
      have hG : getL (b.take 2) < 65536 := by
        have := getL_lt (b.take 2)
        rw [List.length_take, Nat.min_eq_left (by omega)] at this
        exact this
      generalize hg : getL (b.take 2) = G at hG
      have hun : unpadO b most = if (G : Int) ≤ most ∧ (b.drop (2 + G)).all (· == 0) = true then some ((b.take (2 + G)).drop 2) else none := by
        unfold unpadO unpadL
        rw [if_pos (by omega)]
        simp only [hg]
        by_cases hq : (G : Int) ≤ most ∧ (b.drop (2 + G)).all (· == 0) = true
        · rw [if_pos hq, if_pos ⟨by omega, by omega, hq.2⟩]
        · rw [if_neg hq, if_neg (fun h => hq ⟨by omega, h.2.2⟩)]
      rw [w64 (n := (G : Int)) (by omega)]
      intro K18 hK18
      refine br' (fun h3 => ?_) fun h3 => ?_
      · refine ⟨2 + G, by rw [w64 (by omega)]; omega, by omega, ?_⟩
        rw [By_drop]
        refine (Zero_spec (b.drop (2 + G)) _ (by simp; omega) st1).mono ?_
        rintro _ st2 ⟨rfl, hle2⟩
        refine ⟨_, rfl, hK18 _ _ ⟨fun h4 => ?_, fun h4 => ?_⟩⟩
        · rw [hun, if_neg (by rw [Bool.not_eq_true'] at h4; rw [h4]; simp)]
          exact ⟨rfl, hle.trans hle2⟩
        · rw [Bool.not_eq_false'] at h4
          rw [hun, if_pos ⟨by omega, h4⟩]
          refine ⟨2, 2 + G, rfl, by rw [w64 (by omega)]; omega, by omega, by omega, ?_⟩
          have ho : Own st st2 .nil := Own.nil (hle.trans hle2)
          rw [By_take, By_drop]
          refine ⟨ho.has (by simp; omega), fun c' st' ha => ⟨c', ?_, ho.app ha⟩⟩
          rw [List.nil_append]
      · refine hK18 _ _ ⟨fun _ => ?_, fun h => (by cases h)⟩
        rw [hun, if_neg (by omega)]
        exact ⟨rfl, hle⟩
  · have h1 := of_decide_eq_true h
    exact h7 _ _ ⟨fun _ => by rw [show unpadO b most = none by unfold unpadO; rw [if_neg (by omega)]]; exact ⟨rfl, .refl _⟩, fun h => (by cases h)⟩
def fnv (h : Nat) (c : UInt8) : Nat := (h ^^^ c.toNat) * 1099511628211 % 18446744073709551616
def sumL (h : Nat) : List UInt8 → Nat
  | [] => h
  | c :: r => sumL (fnv h c) r
theorem fnv_lt (h : Nat) (c : UInt8) : fnv h c < 2 ^ 64 := Nat.mod_lt _ (by decide)
theorem sumL_lt {h : Nat} (b : List UInt8) (hh : h < 2 ^ 64) : sumL h b < 2 ^ 64 := by
  induction b generalizing h with
  | nil => exact hh
  | cons c b ih => exact ih (fnv_lt h c)
theorem sumL_append (h : Nat) (a b : List UInt8) : sumL h (a ++ b) = sumL (sumL h a) b := by
  induction a generalizing h with
  | nil => rfl
  | cons c a ih => exact ih _
theorem sumL_one (h : Nat) (c : UInt8) : sumL h [c] = fnv h c := rfl
theorem sum_step (h : Nat) (c : UInt8) (hh : h < 2 ^ 64) : IntKind.u64.wrap (ixor .u64 (h : Int) (IntKind.u64.wrap (c.toNat : Int)) * 1099511628211) = (fnv h c : Int) := by
  have h1 := c.toNat_lt
  rw [wu64 (n := (c.toNat : Int)) (by omega), xor_64 _ _ hh (by omega), wrap_u64_mod, fnv]
  omega
theorem Sum_spec (ps : List (List UInt8 × Cap)) (c : Cap) (hl : ps.length < 2 ^ 62) (hb : ∀ p ∈ ps, p.1.length < 2 ^ 62) :
    Gives Tryz.prog F_le_Sum [.lst 1 (ps.map fun p => V.lst 1 (By p.1) p.2) c] (.int .u64 (sumL 14695981039346656037 (ps.map (·.1)).flatten)) := by
  intro st
  refine w_le_Sum ?_
  refine ⟨fun m out i st' => ∃ k : Nat, i = k ∧ k ≤ ps.length ∧ m = ps.length - k ∧ out = (sumL 14695981039346656037 ((ps.take k).map (·.1)).flatten : Int) ∧ st' = st, ⟨ps.length, 0, rfl, by omega, by omega, by simp [sumL], rfl⟩, ?_⟩
  rintro m _ _ st1 ⟨k, rfl, hk, rfl, rfl, rfl⟩
  rw [List.length_map]
  refine br (fun hlt => ?_) fun hge => ?_
  · have hk' : k < ps.length := by omega
    refine ⟨k, rfl, By ps[k].1, ps[k].2, by simp [hk'], ?_⟩
    generalize hS : sumL 14695981039346656037 ((ps.take k).map (·.1)).flatten = S
    have hS64 : S < 2 ^ 64 := by rw [← hS]; exact sumL_lt _ (by decide)
    refine ⟨fun m out i st' => ∃ j : Nat, i = j ∧ j ≤ ps[k].1.length ∧ m = ps[k].1.length - j ∧ out = (sumL S (ps[k].1.take j) : Int) ∧ st' = st1, ⟨ps[k].1.length, 0, rfl, by omega, by omega, by simp [sumL], rfl⟩, ?_⟩
    rintro m _ _ st2 ⟨j, rfl, hj, rfl, rfl, rfl⟩
    rw [By_length]
    have hbk := hb ps[k] (List.getElem_mem hk')
    refine br (fun hjl => ?_) fun hjg => ?_
    · have hj' : j < ps[k].1.length := by omega
      refine ⟨j, rfl, _, By_get hj', ps[k].1.length - (j + 1), by omega, j + 1, ?_, by omega, rfl, ?_, rfl⟩
      · rw [w64 (by omega)]; omega
      · rw [sum_step _ _ (sumL_lt _ hS64), List.take_succ_eq_append_getElem hj', sumL_append, sumL_one]
    · refine ⟨ps.length - (k + 1), by omega, k + 1, ?_, by omega, rfl, ?_, rfl⟩
      · rw [w64 (by omega)]; omega
      · rw [List.take_of_length_le (by omega), List.take_succ_eq_append_getElem hk']
        simp only [List.map_append, List.map_cons, List.map_nil, List.flatten_append, List.flatten_cons, List.flatten_nil, List.append_nil]
        rw [sumL_append, hS]
  · rw [List.take_of_length_le (by omega)]
    exact ⟨rfl, .refl _⟩
end Go.Proofs.YtffenelcgjdbiaaGreatDoor
namespace Go.Proofs.YtffenelcgjdbiaaGreatDoor
open Go Go.Sim
set_option maxRecDepth 100000
def rot (x k : Nat) : Nat := (x * 2 ^ k) % 2 ^ 32 ||| x / 2 ^ (32 - k)
theorem rot_lt {x k : Nat} (h : x < 2 ^ 32) : rot x k < 2 ^ 32 :=
  Nat.or_lt_two_pow (Nat.mod_lt _ (by decide)) (Nat.lt_of_le_of_lt (Nat.div_le_self _ _) h)
def add32 (a b : Nat) : Nat := (a + b) % 2 ^ 32
theorem add32_lt (a b : Nat) : add32 a b < 2 ^ 32 := Nat.mod_lt _ (by decide)
theorem add32_wrap (a b : Nat) : IntKind.u32.wrap ((a : Int) + (b : Int)) = (add32 a b : Int) := by
  rw [wrap_u32_mod, add32]; omega
def qA (a b : Nat) : Nat := add32 a b
def qD (d a k : Nat) : Nat := rot (d ^^^ a) k
theorem qD_lt {d a k : Nat} (hd : d < 2 ^ 32) (ha : a < 2 ^ 32) : qD d a k < 2 ^ 32 := rot_lt (Nat.xor_lt_two_pow hd ha)
def rnd (a b c d : Nat) : Nat × Nat × Nat × Nat :=
  let a1 := qA a b
  let d1 := qD d a1 16
  let c1 := qA c d1
  let b1 := qD b c1 12
  let a2 := qA a1 b1
  let d2 := qD d1 a2 8
  let c2 := qA c1 d2
  let b2 := qD b1 c2 7
  (a2, b2, c2, d2)
theorem rot_spec (x k : Nat) (hx : x < 2 ^ 32) (hk : 0 < k) (hk2 : k < 32) : Gives Tryz.prog F_math_bits_RotateLeft32 [.int .u32 x, .int .i64 k] (.int .u32 (rot x k)) := by
  intro st
  refine w_math_bits_RotateLeft32 ?_
  have e1 : iand .u64 (IntKind.u64.wrap (k : Int)) 31 = (k : Int) := by
    rw [wu64 (by omega)]
    have := and_64 k 31 (by omega) (by omega)
    rw [show ((31 : Nat) : Int) = 31 from rfl] at this
    rw [this, show (31 : Nat) = 2 ^ 5 - 1 from rfl, Nat.and_two_pow_sub_one_eq_mod, Nat.mod_eq_of_lt hk2]
  have e2 : IntKind.u64.wrap (32 - (k : Int)) = ((32 - k : Nat) : Int) := by rw [wu64 (by omega)]; omega
  rw [e1, e2]
  refine ⟨by omega, by omega, ?_, .refl _⟩
  rw [Int.toNat_natCast, Int.toNat_natCast, Nat.min_eq_left (by omega), Nat.min_eq_left (by omega), fdiv_pow]
  have h1 : IntKind.u32.wrap ((x : Int) * 2 ^ k) = ((x * 2 ^ k % 2 ^ 32 : Nat) : Int) := by
    have : ((x * 2 ^ k : Nat) : Int) = (x : Int) * 2 ^ k := by simp
    rw [wrap_u32_mod, ← this]
    generalize x * 2 ^ k = y
    omega
  rw [h1, or_32 _ _ (Nat.mod_lt _ (by decide)) (Nat.lt_of_le_of_lt (Nat.div_le_self _ _) hx)]
  rfl
theorem left_spec (x k : Nat) (hx : x < 2 ^ 32) (hk : 0 < k) (hk2 : k < 32) : Gives Tryz.prog F_ref1_left [.int .u32 x, .int .i64 k] (.int .u32 (rot x k)) := by
  intro st
  refine w_ref1_left ?_
  have e2 : IntKind.i64.wrap (32 - (k : Int)) = ((32 - k : Nat) : Int) := by rw [w64 (by omega)]; omega
  rw [e2, wu64 (n := (k : Int)) (by omega), wu64 (n := ((32 - k : Nat) : Int)) (by omega)]
  refine ⟨by omega, by omega, ?_, .refl _⟩
  rw [Int.toNat_natCast, Int.toNat_natCast, Nat.min_eq_left (by omega), Nat.min_eq_left (by omega), fdiv_pow]
  have h1 : IntKind.u32.wrap ((x : Int) * 2 ^ k) = ((x * 2 ^ k % 2 ^ 32 : Nat) : Int) := by
    have : ((x * 2 ^ k : Nat) : Int) = (x : Int) * 2 ^ k := by simp
    rw [wrap_u32_mod, ← this]
    generalize x * 2 ^ k = y
    omega
  rw [h1, or_32 _ _ (Nat.mod_lt _ (by decide)) (Nat.lt_of_le_of_lt (Nat.div_le_self _ _) hx)]
  rfl
def w4 (r : Nat × Nat × Nat × Nat) : V := .tup [.int .u32 r.1, .int .u32 r.2.1, .int .u32 r.2.2.1, .int .u32 r.2.2.2]
theorem Round_spec (a b c d : Nat) (ha : a < 2 ^ 32) (hb : b < 2 ^ 32) (hc : c < 2 ^ 32) (hd : d < 2 ^ 32) :
    Gives Tryz.prog F_quar_Round [.int .u32 a, .int .u32 b, .int .u32 c, .int .u32 d] (w4 (rnd a b c d)) := by
  intro st
  refine w_quar_Round ?_
  have hA : ∀ x y, add32 x y < 2 ^ 32 := add32_lt
  rw [add32_wrap, xor_32 _ _ hd (hA _ _)]
  refine (rot_spec _ 16 (Nat.xor_lt_two_pow hd (hA _ _)) (by omega) (by omega) st).mono ?_
  rintro _ st1 ⟨rfl, h1⟩
  refine ⟨_, rfl, ?_⟩
  have hd1 : rot (d ^^^ add32 a b) 16 < 2 ^ 32 := rot_lt (Nat.xor_lt_two_pow hd (hA _ _))
  rw [add32_wrap, xor_32 _ _ hb (hA _ _)]
  refine (rot_spec _ 12 (Nat.xor_lt_two_pow hb (hA _ _)) (by omega) (by omega) st1).mono ?_
  rintro _ st2 ⟨rfl, h2⟩
  refine ⟨_, rfl, ?_⟩
  have hb1 : rot (b ^^^ add32 c (rot (d ^^^ add32 a b) 16)) 12 < 2 ^ 32 := rot_lt (Nat.xor_lt_two_pow hb (hA _ _))
  rw [add32_wrap, xor_32 _ _ hd1 (hA _ _)]
  refine (rot_spec _ 8 (Nat.xor_lt_two_pow hd1 (hA _ _)) (by omega) (by omega) st2).mono ?_
  rintro _ st3 ⟨rfl, h3⟩
  refine ⟨_, rfl, ?_⟩
  rw [add32_wrap, xor_32 _ _ hb1 (hA _ _)]
  refine (rot_spec _ 7 (Nat.xor_lt_two_pow hb1 (hA _ _)) (by omega) (by omega) st3).mono ?_
  rintro _ st4 ⟨rfl, h4⟩
  exact ⟨_, rfl, rfl, ((h1.trans h2).trans h3).trans h4⟩
theorem RRound_spec (a b c d : Nat) (ha : a < 2 ^ 32) (hb : b < 2 ^ 32) (hc : c < 2 ^ 32) (hd : d < 2 ^ 32) :
    Gives Tryz.prog F_ref1_Round [.int .u32 a, .int .u32 b, .int .u32 c, .int .u32 d] (w4 (rnd a b c d)) := by
  intro st
  refine w_ref1_Round ?_
  have hA : ∀ x y, add32 x y < 2 ^ 32 := add32_lt
  rw [add32_wrap, xor_32 _ _ hd (hA _ _)]
  refine (left_spec _ 16 (Nat.xor_lt_two_pow hd (hA _ _)) (by omega) (by omega) st).mono ?_
  rintro _ st1 ⟨rfl, h1⟩
  refine ⟨_, rfl, ?_⟩
  have hd1 : rot (d ^^^ add32 a b) 16 < 2 ^ 32 := rot_lt (Nat.xor_lt_two_pow hd (hA _ _))
  rw [add32_wrap, xor_32 _ _ hb (hA _ _)]
  refine (left_spec _ 12 (Nat.xor_lt_two_pow hb (hA _ _)) (by omega) (by omega) st1).mono ?_
  rintro _ st2 ⟨rfl, h2⟩
  refine ⟨_, rfl, ?_⟩
  have hb1 : rot (b ^^^ add32 c (rot (d ^^^ add32 a b) 16)) 12 < 2 ^ 32 := rot_lt (Nat.xor_lt_two_pow hb (hA _ _))
  rw [add32_wrap, xor_32 _ _ hd1 (hA _ _)]
  refine (left_spec _ 8 (Nat.xor_lt_two_pow hd1 (hA _ _)) (by omega) (by omega) st2).mono ?_
  rintro _ st3 ⟨rfl, h3⟩
  refine ⟨_, rfl, ?_⟩
  rw [add32_wrap, xor_32 _ _ hb1 (hA _ _)]
  refine (left_spec _ 7 (Nat.xor_lt_two_pow hb1 (hA _ _)) (by omega) (by omega) st3).mono ?_
  rintro _ st4 ⟨rfl, h4⟩
  exact ⟨_, rfl, rfl, ((h1.trans h2).trans h3).trans h4⟩
def W32 (l : List Nat) : List V := l.map fun (n : Nat) => V.int .u32 (n : Int)
@[simp] theorem W32_length (l : List Nat) : (W32 l).length = l.length := by simp [W32]
theorem W32_set (l : List Nat) (i n : Nat) : (W32 l).set i (.int .u32 (n : Int)) = W32 (l.set i n) := by simp [W32, List.map_set]
theorem W32_get {l : List Nat} {i : Nat} (h : i < l.length) : (W32 l)[i]? = some (.int .u32 (l.getD i 0 : Int)) := by simp [W32, h]
def placesL : List (Nat × Nat × Nat × Nat) := [(0, 4, 8, 12), (1, 5, 9, 13), (2, 6, 10, 14), (3, 7, 11, 15), (0, 5, 10, 15), (1, 6, 11, 12), (2, 7, 8, 13), (3, 4, 9, 14)]
def pl (k : Nat) : Nat × Nat × Nat × Nat := placesL.getD k (0, 0, 0, 0)
def p4 (p : Nat × Nat × Nat × Nat) : List V := [.int .i64 p.1, .int .i64 p.2.1, .int .i64 p.2.2.1, .int .i64 p.2.2.2]
def placesV : List V := (placesL.map p4).flatten
def step (s : List Nat) (p : Nat × Nat × Nat × Nat) : List Nat :=
  let r := rnd (s.getD p.1 0) (s.getD p.2.1 0) (s.getD p.2.2.1 0) (s.getD p.2.2.2 0)
  (((s.set p.1 r.1).set p.2.1 r.2.1).set p.2.2.1 r.2.2.1).set p.2.2.2 r.2.2.2
def dblk (s : List Nat) : Nat → List Nat
  | 0 => s
  | k + 1 => step (dblk s k) (pl k)
def dbl (s : List Nat) : List Nat := dblk s 8
def Wd (s : List Nat) : Prop := s.length = 16 ∧ ∀ x ∈ s, x < 2 ^ 32
theorem Wd.getD {s : List Nat} (h : Wd s) (i : Nat) : s.getD i 0 < 2 ^ 32 := by
  by_cases hi : i < s.length
  · rw [List.getD_eq_getElem?_getD, List.getElem?_eq_getElem hi]; exact h.2 _ (List.getElem_mem hi)
  · rw [List.getD_eq_getElem?_getD, List.getElem?_eq_none (by omega)]; decide
theorem Wd.set {s : List Nat} (h : Wd s) (i : Nat) {x : Nat} (hx : x < 2 ^ 32) : Wd (s.set i x) := by
  refine ⟨by rw [List.length_set]; exact h.1, fun y hy => ?_⟩
  rcases List.mem_or_eq_of_mem_set hy with hy | rfl
  · exact h.2 y hy
  · exact hx
theorem rnd_lt (a b c d : Nat) (ha : a < 2 ^ 32) (hb : b < 2 ^ 32) (hc : c < 2 ^ 32) (hd : d < 2 ^ 32) :
    (rnd a b c d).1 < 2 ^ 32 ∧ (rnd a b c d).2.1 < 2 ^ 32 ∧ (rnd a b c d).2.2.1 < 2 ^ 32 ∧ (rnd a b c d).2.2.2 < 2 ^ 32 := by
  have h1 : ∀ x y, qA x y < 2 ^ 32 := add32_lt
  have d1 := qD_lt (k := 16) hd (h1 a b)
  have b1 := qD_lt (k := 12) hb (h1 c (qD d (qA a b) 16))
  have d2 := qD_lt (k := 8) d1 (h1 (qA a b) (qD b (qA c (qD d (qA a b) 16)) 12))
  exact ⟨h1 _ _, qD_lt b1 (h1 _ _), h1 _ _, d2⟩
theorem Wd.step {s : List Nat} (h : Wd s) (p : Nat × Nat × Nat × Nat) : Wd (step s p) := by
  obtain ⟨h1, h2, h3, h4⟩ := rnd_lt _ _ _ _ (h.getD p.1) (h.getD p.2.1) (h.getD p.2.2.1) (h.getD p.2.2.2)
  exact (((h.set _ h1).set _ h2).set _ h3).set _ h4
theorem Wd.dblk {s : List Nat} (h : Wd s) (k : Nat) : Wd (dblk s k) := by
  induction k with
  | zero => exact h
  | succ k ih => exact ih.step _
theorem pl_ok {k : Nat} (hk : k < 8) : fldV placesV (k * 4) 4 true = some (.agg (p4 (pl k))) ∧ (pl k).1 < 16 ∧ (pl k).2.1 < 16 ∧ (pl k).2.2.1 < 16 ∧ (pl k).2.2.2 < 16 := by
  match k, hk with
  | 0, _ => exact ⟨rfl, by decide⟩
  | 1, _ => exact ⟨rfl, by decide⟩
  | 2, _ => exact ⟨rfl, by decide⟩
  | 3, _ => exact ⟨rfl, by decide⟩
  | 4, _ => exact ⟨rfl, by decide⟩
  | 5, _ => exact ⟨rfl, by decide⟩
  | 6, _ => exact ⟨rfl, by decide⟩
  | 7, _ => exact ⟨rfl, by decide⟩
def tbl : Nat → List V
  | 0 => List.replicate 32 (.int .i64 0)
  | k + 1 => repl (repl (tbl k) (0 + k * 4) [.int .i64 k, .int .i64 (IntKind.i64.wrap (4 + k)), .int .i64 (IntKind.i64.wrap (8 + k)), .int .i64 (IntKind.i64.wrap (12 + k))]) (0 + (4 + k) * 4)
      [.int .i64 k, .int .i64 (IntKind.i64.wrap (4 + Int.tmod (IntKind.i64.wrap (k + 1)) 4)), .int .i64 (IntKind.i64.wrap (8 + Int.tmod (IntKind.i64.wrap (k + 2)) 4)), .int .i64 (IntKind.i64.wrap (12 + Int.tmod (IntKind.i64.wrap (k + 3)) 4))]
theorem tbl_len {k : Nat} (hk : k ≤ 4) : (tbl k).length = 32 := by
  match k, hk with
  | 0, _ => rfl
  | 1, _ => rfl
  | 2, _ => rfl
  | 3, _ => rfl
  | 4, _ => rfl
theorem tbl_4 : tbl 4 = placesV := by rfl
theorem places_spec : Gives Tryz.prog F_quar_places [] (.agg placesV) := by
  intro st
  refine w_quar_places ?_
  rintro st1 h1 st2 h2
  refine ⟨fun n i st' => ∃ k : Nat, i = k ∧ k ≤ 4 ∧ n = 4 - k ∧ st.le st' ∧ st'.cells st1.next = some (tbl k) ∧ st'.cells st.next = some (List.replicate 32 (.int .i64 0)), ⟨4, 0, rfl, by omega, rfl, ?_, ?_, ?_⟩, ?_⟩
  · subst h1 h2; exact (St.le.refl st).new _ |>.new _
  · subst h2; exact cells_new _ _
  · subst h2; exact cells_new' (by subst h1; exact cells_new _ _)
  have hne : st.next ≠ st1.next := by subst h1; simp
  have hge : st.next ≤ st1.next := by subst h1; simp
  rintro n _ st3 ⟨k, rfl, hk, rfl, hle, hc, hz⟩
  refine br (fun hlt => ?_) fun hgt => ?_
  · have hl1 := tbl_len (k := k) (by omega)
    have hk4 : k + 1 ≤ 4 := by omega
    refine ⟨k, rfl, by omega, rfl, rfl, _, hc, by omega, fun st4 h4 => ?_⟩
    refine ⟨4 + k, by rw [w64 (by omega)]; omega, by omega, rfl, rfl, _, by rw [h4]; exact cells_set hc, ?_, fun st5 h5 => ?_⟩
    · rw [length_repl _ _ _ (by simp; omega)]; omega
    refine ⟨4 - (k + 1), by omega, k + 1, by rw [w64 (by omega)]; omega, hk4, rfl, ?_, ?_, ?_⟩
    · rw [h5, h4]; exact (hle.set hge _).set hge _
    · rw [h5]; exact cells_set (cs := repl (tbl k) _ _) (by rw [h4]; exact cells_set hc)
    · rw [h5]; exact cells_set' (by rw [h4]; exact cells_set' hz hne) hne
  · have : k = 4 := by omega
    subst this
    rw [tbl_4] at hc
    refine ⟨_, ldvg hc rfl, rfl, rfl, _, hz, by simp, fun st4 h4 => ?_⟩
    rw [repl_all' (by rfl)] at h4
    refine ⟨_, ldvg (by rw [h4]; exact cells_set hz) rfl, rfl, ?_⟩
    rw [h4]; exact hle.set (Nat.le_refl _) _
theorem quarters_spec : Gives Tryz.prog F_ref1_quarters [] (.agg placesV) := by
  intro st
  refine w_ref1_quarters ?_
  rintro st1 rfl
  refine ⟨rfl, rfl, _, cells_new _ _, by simp, ?_⟩
  rintro st2 rfl
  rw [repl_all' (by rfl)]
  refine ⟨_, ldvg (cells_set (cells_new _ _)) rfl, rfl, ((St.le.refl st).new _).set (Nat.le_refl _) _⟩
theorem dblk_step {s : List Nat} (k : Nat) : dblk s (k + 1) = step (dblk s k) (pl k) := rfl
theorem ldp {st : St} {id : Nat} {p : Nat × Nat × Nat × Nat} (h : st.cells id = some (p4 p)) : st.ldv id 0 1 false = some (.int .i64 p.1) ∧ st.ldv id 1 1 false = some (.int .i64 p.2.1) ∧ st.ldv id 2 1 false = some (.int .i64 p.2.2.1) ∧ st.ldv id 3 1 false = some (.int .i64 p.2.2.2) :=
  ⟨ldv1 h rfl, ldv1 h rfl, ldv1 h rfl, ldv1 h rfl⟩
theorem ldw {st : St} {id i : Nat} {s : List Nat} (h : st.cells id = some (W32 s)) (hi : i < s.length) : st.ldv id (0 + i * 1) 1 false = some (.int .u32 (s.getD i 0 : Int)) :=
  ldv1 h (by rw [Nat.mul_one, Nat.zero_add]; exact W32_get hi)
theorem Double_spec (s : List Nat) (hs : Wd s) : Gives Tryz.prog F_quar_Double [.agg (W32 s)] (.agg (W32 (dbl s))) := by
  intro st
  refine w_quar_Double ?_
  rintro st2 h2 st3 h3
  refine (places_spec st3).mono ?_
  rintro _ st5 ⟨rfl, hle5⟩
  have hle3 : st.le st3 := by subst h2 h3; exact (St.le.refl st).new _ |>.new _
  have hc0 : st3.cells st.next = some (W32 s) := by subst h2 h3; exact cells_new' (cells_new _ _)
  have hc1 : st3.cells st2.next = some (List.replicate 16 (.int .u32 0)) := by subst h3; exact cells_new _ _
  have hne : st2.next ≠ st.next := by subst h2; simp
  have hge2 : st.next ≤ st2.next := by subst h2; simp
  refine ⟨_, rfl, fun n i st' => ∃ k : Nat, i = k ∧ k ≤ 8 ∧ n = 8 - k ∧ st.le st' ∧ st'.cells st.next = some (W32 (dblk s k)) ∧ st'.cells st2.next = some (List.replicate 16 (.int .u32 0)), ⟨8, 0, rfl, by omega, rfl, hle3.trans hle5, hle5.getC hc0, hle5.getC hc1⟩, ?_⟩
  rintro n _ st10 ⟨k, rfl, hk, rfl, hle, hc, hz⟩
  have hwd := hs.dblk k
  generalize hS : dblk s k = S at hc hwd
  refine br (fun hlt => ?_) fun hgt => ?_
  · have hk8 : k < 8 := by omega
    obtain ⟨hf, b1, b2, b3, b4⟩ := pl_ok hk8
    generalize hp : pl k = p at hf b1 b2 b3 b4
    refine ⟨k, rfl, hk8, _, _, _, _, hf, fun st16 h16 => ⟨rfl, rfl, [.int .i64 0, .int .i64 0, .int .i64 0, .int .i64 0], by rw [h16]; exact cells_new _ _, by simp, fun st18 h18 => ?_⟩⟩
    rw [repl_all' (by rfl)] at h18
    have hn10 : st.next < st10.next := St.lt_of_cells hc
    have hn10' : st2.next < st10.next := St.lt_of_cells hz
    have hp18 : st18.cells st10.next = some (p4 p) := by rw [h18]; exact cells_set (cs := [.int .i64 0, .int .i64 0, .int .i64 0, .int .i64 0]) (by rw [h16]; exact cells_new _ _)
    have hc18 : st18.cells st.next = some (W32 S) := by rw [h18]; exact cells_set' (by rw [h16]; exact cells_new' hc) (by omega)
    have hz18 : st18.cells st2.next = some (List.replicate 16 (.int .u32 0)) := by rw [h18]; exact cells_set' (by rw [h16]; exact cells_new' hz) (by omega)
    have hle18 : st.le st18 := by rw [h18, h16]; exact (hle.new _).set (by omega) _
    obtain ⟨l0, l1, l2, l3⟩ := ldp hp18
    have hl := hwd.1
    refine ⟨_, l0, _, l1, _, l2, _, l3, _, l0, p.1, rfl, b1, _, ldw hc18 (by omega), _, l1, p.2.1, rfl, b2, _, ldw hc18 (by omega), _, l2, p.2.2.1, rfl, b3, _, ldw hc18 (by omega), _, l3, p.2.2.2, rfl, b4, _, ldw hc18 (by omega), ?_⟩
    refine (Round_spec _ _ _ _ (hwd.getD _) (hwd.getD _) (hwd.getD _) (hwd.getD _) st18).mono ?_
    rintro _ st36 ⟨rfl, hle36⟩
    generalize hr : rnd (S.getD p.1 0) (S.getD p.2.1 0) (S.getD p.2.2.1 0) (S.getD p.2.2.2 0) = r
    have hp36 := hle36.getC hp18
    have hc36 := hle36.getC hc18
    obtain ⟨l0, l1, l2, l3⟩ := ldp hp36
    refine ⟨_, _, _, _, rfl, l0, l1, l2, l3, p.1, rfl, b1, _, hc36, by simp; omega, fun st43 h43 => ?_⟩
    rw [Nat.mul_one, Nat.zero_add, W32_set] at h43
    have hp43 : st43.cells st10.next = some (p4 p) := by rw [h43]; exact cells_set' hp36 (by omega)
    have hc43 : st43.cells st.next = some (W32 (S.set p.1 r.1)) := by rw [h43]; exact cells_set hc36
    obtain ⟨l0, l1, l2, l3⟩ := ldp hp43
    refine ⟨l1, l2, l3, p.2.1, rfl, b2, _, hc43, by simp; omega, fun st46 h46 => ?_⟩
    rw [Nat.mul_one, Nat.zero_add, W32_set] at h46
    have hp46 : st46.cells st10.next = some (p4 p) := by rw [h46]; exact cells_set' hp43 (by omega)
    have hc46 := cells_set (cs' := W32 ((S.set p.1 r.1).set p.2.1 r.2.1)) hc43
    rw [← h46] at hc46
    obtain ⟨l0, l1, l2, l3⟩ := ldp hp46
    refine ⟨l2, l3, p.2.2.1, rfl, b3, _, hc46, by simp; omega, fun st49 h49 => ?_⟩
    rw [Nat.mul_one, Nat.zero_add, W32_set] at h49
    have hp49 : st49.cells st10.next = some (p4 p) := by rw [h49]; exact cells_set' hp46 (by omega)
    have hc49 := cells_set (cs' := W32 (((S.set p.1 r.1).set p.2.1 r.2.1).set p.2.2.1 r.2.2.1)) hc46
    rw [← h49] at hc49
    obtain ⟨l0, l1, l2, l3⟩ := ldp hp49
    refine ⟨l3, p.2.2.2, rfl, b4, _, hc49, by simp; omega, fun st52 h52 => ?_⟩
    rw [Nat.mul_one, Nat.zero_add, W32_set] at h52
    have hc52 := cells_set (cs' := W32 ((((S.set p.1 r.1).set p.2.1 r.2.1).set p.2.2.1 r.2.2.1).set p.2.2.2 r.2.2.2)) hc49
    rw [← h52] at hc52
    refine ⟨8 - (k + 1), by omega, k + 1, by rw [w64 (by omega)]; omega, by omega, rfl, ?_, ?_, ?_⟩
    · rw [h52, h49, h46, h43]
      exact ((((hle18.trans hle36).set (Nat.le_refl _) _).set (Nat.le_refl _) _).set (Nat.le_refl _) _).set (Nat.le_refl _) _
    · rw [hc52, dblk_step, hS, hp]
      simp only [step, hr]
    · rw [h52]; refine cells_set' ?_ hne
      rw [h49]; refine cells_set' ?_ hne
      rw [h46]; refine cells_set' ?_ hne
      rw [h43]; exact cells_set' (hle36.getC hz18) hne
  · have : k = 8 := by omega
    subst this
    refine ⟨_, ldvg hc (by rw [W32_length]; exact hwd.1), by rw [W32_length]; exact hwd.1, rfl, _, hz, by simp, fun st4 h4 => ?_⟩
    rw [repl_all' (by rw [W32_length, hwd.1]; rfl)] at h4
    refine ⟨_, ldvg (by rw [h4]; exact cells_set hz) (by rw [W32_length]; exact hwd.1), ?_, ?_⟩
    · rw [dbl, hS]
    · rw [h4]; exact hle.set hge2 _
end Go.Proofs.YtffenelcgjdbiaaGreatDoor
namespace Go.Proofs.YtffenelcgjdbiaaGreatDoor
open Go Go.Sim
set_option maxRecDepth 100000
theorem RGet_spec (bs : List UInt8) (c : Cap) (hl : bs.length ≤ 8) : Gives Tryz.prog F_ref1_Get [.lst 1 (By bs) c] (.int .u64 (getL bs)) := by
  intro st
  refine w_ref1_Get ?_
  rw [By_length]
  refine ⟨fun m out i st' => ∃ k : Nat, i = k ∧ k ≤ bs.length ∧ m = bs.length - k ∧ out = (getL (bs.take k) : Int) ∧ st' = st, ⟨bs.length, 0, rfl, by omega, rfl, by simp [getL], rfl⟩, ?_⟩
  rintro _ _ _ st1 ⟨k, rfl, hk, rfl, rfl, rfl⟩
  intro K hK
  have out : bs.length ≤ k → K false st1 := fun hge => hK _ _ ⟨fun h => (by cases h), fun _ => ⟨by rw [List.take_of_length_le hge], .refl _⟩⟩
  refine br (fun hlt => ?_) fun hge => out (by omega)
  have hlt : k < bs.length := by omega
  have : decide ((k : Int) < 8) = true := by simp; omega
  rw [this]
  refine hK _ _ ⟨fun _ => ⟨k, rfl, _, By_get hlt, ?_, bs.length - (k + 1), by omega, k + 1, ?_, by omega, rfl, ?_, rfl⟩, fun h => (by cases h)⟩
  · rw [w64 (n := 8 * (k : Int)) (by omega), wu64 (by omega)]; omega
  · rw [w64 (by omega)]; omega
  · rw [w64 (n := 8 * (k : Int)) (by omega), wu64 (n := 8 * (k : Int)) (by omega), wu64 (n := (bs[k].toNat : Int)) (by have := bs[k].toNat_lt; omega)]
    have hx := bs[k].toNat_lt
    rw [show (8 * (k : Int)).toNat = 8 * k by omega, Nat.min_eq_left (by omega)]
    have hp : 2 ^ (8 * k) = 256 ^ k := by rw [Nat.pow_mul]
    have hG := getL_lt (bs.take k)
    rw [List.length_take, Nat.min_eq_left (by omega)] at hG
    have h9 : 256 ^ k * bs[k].toNat < 2 ^ 64 := by
      have h1 : 256 ^ k * bs[k].toNat < 256 ^ k * 256 := Nat.mul_lt_mul_of_pos_left hx (Nat.pow_pos (by decide))
      have h2 : 256 ^ k * 256 = 256 ^ (k + 1) := rfl
      have h3 : 256 ^ (k + 1) ≤ 256 ^ 8 := Nat.pow_le_pow_right (by decide) (by omega)
      have h4 : (256 : Nat) ^ 8 = 2 ^ 64 := by decide
      omega
    have e1 : (bs[k].toNat : Int) * 2 ^ (8 * k) = ((256 ^ k * bs[k].toNat : Nat) : Int) := by
      rw [← hp, Int.natCast_mul, Int.mul_comm]; simp
    rw [e1, wu64 (by omega)]
    have hGl : getL (bs.take k) < 2 ^ 64 := getL_lt64 _ (by simp; omega)
    rw [or_64 _ _ hGl h9]
    have key : getL (bs.take (k + 1)) = getL (bs.take k) + 256 ^ k * bs[k].toNat := by
      have : ∀ (l : List UInt8) (x : UInt8), getL (l ++ [x]) = getL l + 256 ^ l.length * x.toNat := by
        intro l x
        induction l with
        | nil => simp [getL]
        | cons y l ih =>
          simp only [List.cons_append, getL, ih, List.length_cons, Nat.pow_succ]
          rw [Nat.mul_add, ← Nat.add_assoc, ← Nat.mul_assoc, Nat.mul_comm 256 (256 ^ l.length)]
      rw [List.take_succ_eq_append_getElem hlt, this, List.length_take, Nat.min_eq_left (by omega)]
    rw [key, Nat.or_comm]
    have := Nat.two_pow_add_eq_or_of_lt (i := 8 * k) (b := getL (bs.take k)) (by rw [hp]; exact hG) bs[k].toNat
    rw [hp] at this
    rw [← this]
    congr 1
    omega
def kw (b : List UInt8) (k : Nat) : Nat := getL ((b.take (4 * k + 4)).drop (4 * k))
theorem kw_lt (b : List UInt8) (k : Nat) : kw b k < 2 ^ 32 := by
  refine Nat.lt_of_lt_of_le (getL_lt _) ?_
  have : 256 ^ ((b.take (4 * k + 4)).drop (4 * k)).length ≤ 256 ^ 4 := Nat.pow_le_pow_right (by decide) (by simp; omega)
  exact this
def fillW (at_ : Nat) (b : List UInt8) (s : List Nat) : Nat → List Nat
  | 0 => s
  | k + 1 => (fillW at_ b s k).set (at_ + k) (kw b k)
theorem fillW_wd {at_ : Nat} {b : List UInt8} {s : List Nat} (h : Wd s) (k : Nat) : Wd (fillW at_ b s k) := by
  induction k with
  | zero => exact h
  | succ k ih => exact ih.set _ (kw_lt b k)
def base16 : List Nat := [1634760805, 857760878, 2036477234, 1797285236, 0, 0, 0, 0, 0, 0, 0, 0, 0, 0, 0, 0]
theorem base_wd : Wd base16 := ⟨rfl, by decide⟩
def iniL (key nonce : List UInt8) (ctr : Nat) : List Nat := fillW 13 nonce ((fillW 4 key base16 8).set 12 ctr) 3
theorem ini_wd (key nonce : List UInt8) {ctr : Nat} (h : ctr < 2 ^ 32) : Wd (iniL key nonce ctr) := fillW_wd ((fillW_wd base_wd 8).set _ h) 3
def itr (s : List Nat) : Nat → List Nat
  | 0 => s
  | k + 1 => dbl (itr s k)
theorem itr_wd {s : List Nat} (h : Wd s) (k : Nat) : Wd (itr s k) := by
  induction k with
  | zero => exact h
  | succ k ih => exact ih.dblk 8
def outL (s t : List Nat) : Nat → List UInt8
  | 0 => List.replicate 64 0
  | k + 1 => repl (outL s t k) (4 * k) (putL (add32 (s.getD k 0) (t.getD k 0)) 4)
theorem outL_len (s t : List Nat) {k : Nat} (hk : k ≤ 16) : (outL s t k).length = 64 := by
  induction k with
  | zero => rfl
  | succ k ih =>
    have := ih (by omega)
    rw [outL, length_repl _ _ _ (by rw [putL_len]; omega)]
    exact this
def blockL (key nonce : List UInt8) (ctr : Nat) : List UInt8 :=
  let s := iniL key nonce ctr
  outL s (itr s 10) 16
theorem block_len (key nonce : List UInt8) (ctr : Nat) : (blockL key nonce ctr).length = 64 := outL_len _ _ (Nat.le_refl _)
theorem By_repl (l m : List UInt8) (k : Nat) : repl (By l) k (By m) = By (repl l k m) := by
  simp only [repl, By_append, By_take, By_drop, By_length]
theorem base_V : [V.int .u32 1634760805, .int .u32 857760878, .int .u32 2036477234, .int .u32 1797285236] ++ List.replicate 12 (V.int .u32 0) = W32 base16 := rfl
theorem ten_le {key nonce : List V} {st st4 st5 st6 st8 st10 : St} (h4 : st4 = st.newC key) (h5 : st5 = st4.newC nonce) (h6 : st6 = st5.newC (List.replicate 64 (V.int .u8 0))) (h8 : st8 = (st6.killC st4.next).newT) (h10 : st10 = (st8.killC st.next).newT) :
    st6.cells st4.next = some nonce ∧ st8.cells st.next = some key ∧ st.le st10 ∧ st10.cells st5.next = some (By (List.replicate 64 0)) ∧ st.next ≤ st5.next := by
  have n4 : st4.next = st.next + 1 := by rw [h4]; rfl
  have n5 : st5.next = st4.next + 1 := by rw [h5]; rfl
  have c4 : st4.cells st.next = some key := by rw [h4]; exact cells_new _ _
  have c5 : st5.cells st.next = some key := by rw [h5]; exact cells_new' c4
  have c5' : st5.cells st4.next = some nonce := by rw [h5]; exact cells_new _ _
  have l6 : st.le st6 := by rw [h6, h5, h4]; exact (((St.le.refl st).new _).new _).new _
  have c6 : st6.cells st.next = some key := by rw [h6]; exact cells_new' c5
  have c6' : st6.cells st4.next = some nonce := by rw [h6]; exact cells_new' c5'
  have c6'' : st6.cells st5.next = some (By (List.replicate 64 0)) := by rw [h6]; exact cells_new _ _
  refine ⟨c6', ?_, ?_, ?_, by omega⟩
  · rw [h8]; exact cells_kill c6 (by omega)
  · rw [h10, h8]; exact ((l6.kill (by omega)).newT.kill (Nat.le_refl _)).newT
  · rw [h10]; refine cells_kill ?_ (by omega)
    rw [h8]; exact cells_kill c6'' (by omega)
theorem Block_spec (key nonce : List UInt8) (ctr : Nat) (hk : key.length = 32) (hn : nonce.length = 12) (hc : ctr < 2 ^ 32) :
    Gives Tryz.prog F_chac_Block [.agg (By key), .agg (By nonce), .int .u32 ctr] (.agg (By (blockL key nonce ctr))) := by
  intro st
  refine w_chac_Block ?_
  intro st4 h4 st5 h5 st6 h6
  obtain ⟨c7, c8, hle10, hR, hge⟩ := ten_le h4 h5 h6 rfl rfl
  refine ⟨By nonce, c7, fun st8 h8 => ⟨By key, by rw [h8]; exact c8, fun st10 h10 => ?_⟩⟩
  rw [← h8, ← h10] at hle10 hR
  have hRn : st5.next < st10.next := St.lt_of_cells hR
  have hsn : st.next ≤ st10.next := by omega
  intro st11 h11
  refine ⟨rfl, rfl, List.replicate 16 (V.int .u32 0), by rw [h11]; exact cells_new _ _, by simp, fun st13 h13 => ?_⟩
  rw [base_V, repl_all' (by rfl)] at h13
  have c13 : st13.cells st10.next = some (W32 base16) := by rw [h13]; exact cells_set (cs := List.replicate 16 (V.int .u32 0)) (by rw [h11]; exact cells_new _ _)
  have r13 : st13.cells st5.next = some (By (List.replicate 64 0)) := by rw [h13]; exact cells_set' (by rw [h11]; exact cells_new' hR) (by omega)
  have l13 : st.le st13 := by rw [h13, h11]; exact (hle10.new _).set hsn _
  clear h13 h11 h10 h8 h6 h5 h4 c7 c8
  refine ⟨fun m i st' => ∃ k : Nat, i = k ∧ k ≤ 8 ∧ m = 8 - k ∧ st.le st' ∧ st'.cells st10.next = some (W32 (fillW 4 key base16 k)) ∧ st'.cells st5.next = some (By (List.replicate 64 0)), ⟨8, 0, rfl, by omega, rfl, l13, c13, r13⟩, ?_⟩
  rintro _ _ st17 ⟨k, rfl, hk8, rfl, l17, c17, r17⟩
  refine br (fun hlt => ?_) fun hge8 => ?_
  · refine ⟨by rw [By_length]; omega, 4 * k, 4 * k + 4, by rw [w64 (by omega)]; omega, by rw [w64 (n := 4 * (k : Int)) (by omega), w64 (by omega)]; omega, by omega, by omega, ?_⟩
    rw [By_take, By_drop]
    refine (Get_spec _ _ (by simp; omega) st17).mono ?_
    rintro _ st21 ⟨rfl, hle⟩
    have hw := (fillW_wd (at_ := 4) (b := key) base_wd k).1
    refine ⟨_, rfl, 4 + k, by rw [w64 (by omega)]; omega, by omega, _, hle.getC c17, by rw [W32_length]; omega, fun st25 h25 => ?_⟩
    have hkw := kw_lt key k
    unfold kw at hkw
    rw [Nat.mul_one, Nat.zero_add, wu32 (by omega), W32_set] at h25
    refine ⟨8 - (k + 1), by omega, k + 1, by rw [w64 (by omega)]; omega, by omega, rfl, ?_, ?_, ?_⟩
    · rw [h25]; exact (l17.trans hle).set hsn _
    · rw [h25]; exact cells_set (hle.getC c17)
    · rw [h25]; exact cells_set' (hle.getC r17) (by omega)
  have : k = 8 := by omega
  subst this
  have hw8 := fillW_wd (at_ := 4) (b := key) base_wd 8
  refine ⟨_, c17, by rw [W32_length, hw8.1]; decide, fun st28 h28 => ?_⟩
  rw [W32_set] at h28
  have c28 := cells_set (cs' := W32 ((fillW 4 key base16 8).set 12 ctr)) c17
  rw [← h28] at c28
  have r28 : st28.cells st5.next = some (By (List.replicate 64 0)) := by rw [h28]; exact cells_set' r17 (by omega)
  have l28 : st.le st28 := by rw [h28]; exact l17.set hsn _
  have hw12 := hw8.set 12 hc
  refine ⟨fun m i st' => ∃ k : Nat, i = k ∧ k ≤ 3 ∧ m = 3 - k ∧ st.le st' ∧ st'.cells st10.next = some (W32 (fillW 13 nonce ((fillW 4 key base16 8).set 12 ctr) k)) ∧ st'.cells st5.next = some (By (List.replicate 64 0)), ⟨3, 0, rfl, by omega, rfl, l28, c28, r28⟩, ?_⟩
  rintro _ _ st32 ⟨k, rfl, hk3, rfl, l32, c32, r32⟩
  refine br (fun hlt => ?_) fun hge3 => ?_
  · refine ⟨by rw [By_length]; omega, 4 * k, 4 * k + 4, by rw [w64 (by omega)]; omega, by rw [w64 (n := 4 * (k : Int)) (by omega), w64 (by omega)]; omega, by omega, by omega, ?_⟩
    rw [By_take, By_drop]
    refine (Get_spec _ _ (by simp; omega) st32).mono ?_
    rintro _ st36 ⟨rfl, hle⟩
    have hw := (fillW_wd (at_ := 13) (b := nonce) hw12 k).1
    refine ⟨_, rfl, 13 + k, by rw [w64 (by omega)]; omega, by omega, _, hle.getC c32, by rw [W32_length]; omega, fun st40 h40 => ?_⟩
    have hkw := kw_lt nonce k
    unfold kw at hkw
    rw [Nat.mul_one, Nat.zero_add, wu32 (by omega), W32_set] at h40
    refine ⟨3 - (k + 1), by omega, k + 1, by rw [w64 (by omega)]; omega, by omega, rfl, ?_, ?_, ?_⟩
    · rw [h40]; exact (l32.trans hle).set hsn _
    · rw [h40]; exact cells_set (hle.getC c32)
    · rw [h40]; exact cells_set' (hle.getC r32) (by omega)
  have : k = 3 := by omega
  subst this
  have hws := ini_wd key nonce hc
  have hS : fillW 13 nonce ((fillW 4 key base16 8).set 12 ctr) 3 = iniL key nonce ctr := rfl
  rw [hS] at c32
  generalize hSe : iniL key nonce ctr = S at c32 hws
  refine ⟨_, ldvg c32 (by rw [W32_length]; exact hws.1), fun st43 h43 => ⟨by rw [W32_length]; exact hws.1, rfl, List.replicate 16 (V.int .u32 0), by rw [h43]; exact cells_new _ _, by simp, fun st45 h45 => ?_⟩⟩
  rw [repl_all' (by rw [W32_length, hws.1]; rfl)] at h45
  have hn10 : st10.next < st32.next := St.lt_of_cells c32
  have hn5 : st5.next < st32.next := St.lt_of_cells r32
  have t45 : st45.cells st32.next = some (W32 S) := by rw [h45]; exact cells_set (cs := List.replicate 16 (V.int .u32 0)) (by rw [h43]; exact cells_new _ _)
  have c45 : st45.cells st10.next = some (W32 S) := by rw [h45]; exact cells_set' (by rw [h43]; exact cells_new' c32) (by omega)
  have r45 : st45.cells st5.next = some (By (List.replicate 64 0)) := by rw [h45]; exact cells_set' (by rw [h43]; exact cells_new' r32) (by omega)
  have l45 : st.le st45 := by rw [h45, h43]; exact (l32.new _).set (by omega) _
  refine ⟨fun m i st' => ∃ k : Nat, i = k ∧ k ≤ 10 ∧ m = 10 - k ∧ st.le st' ∧ st'.cells st32.next = some (W32 (itr S k)) ∧ st'.cells st10.next = some (W32 S) ∧ st'.cells st5.next = some (By (List.replicate 64 0)), ⟨10, 0, rfl, by omega, rfl, l45, t45, c45, r45⟩, ?_⟩
  rintro _ _ st49 ⟨k, rfl, hk10, rfl, l49, t49, c49, r49⟩
  have hwt := itr_wd hws k
  refine br (fun hlt => ?_) fun hge10 => ?_
  · refine ⟨_, ldvg t49 (by rw [W32_length]; exact hwt.1), ?_⟩
    refine (Double_spec _ hwt st49).mono ?_
    rintro _ st52 ⟨rfl, hle⟩
    refine ⟨_, rfl, by rw [W32_length]; exact (itr_wd hws (k + 1)).1, rfl, _, hle.getC t49, by rw [W32_length, hwt.1]; decide, fun st55 h55 => ?_⟩
    rw [repl_all' (by rw [W32_length, W32_length, hwt.1]; exact (itr_wd hws (k + 1)).1)] at h55
    refine ⟨10 - (k + 1), by omega, k + 1, by rw [w64 (by omega)]; omega, by omega, rfl, ?_, ?_, ?_, ?_⟩
    · rw [h55]; exact (l49.trans hle).set (by omega) _
    · rw [h55]; exact cells_set (hle.getC t49)
    · rw [h55]; exact cells_set' (hle.getC c49) (by omega)
    · rw [h55]; exact cells_set' (hle.getC r49) (by omega)
  have : k = 10 := by omega
  subst this
  generalize hTe : itr S 10 = T at t49 hwt
  intro st57 h57
  have hn49 : st32.next < st49.next := St.lt_of_cells t49
  refine ⟨fun m i st' => ∃ k : Nat, i = k ∧ k ≤ 16 ∧ m = 16 - k ∧ st.le st' ∧ st'.cells st49.next = some (By (outL S T k)) ∧ st'.cells st32.next = some (W32 T) ∧ st'.cells st10.next = some (W32 S) ∧ st'.cells st5.next = some (By (List.replicate 64 0)),
    ⟨16, 0, rfl, by omega, rfl, by rw [h57]; exact l49.new _, by rw [h57]; exact cells_new _ _, by rw [h57]; exact cells_new' t49, by rw [h57]; exact cells_new' c49, by rw [h57]; exact cells_new' r49⟩, ?_⟩
  rintro _ _ st61 ⟨k, rfl, hk16, rfl, l61, o61, t61, c61, r61⟩
  have hol := outL_len S T hk16
  refine br (fun hlt => ?_) fun hge16 => ?_
  · refine ⟨4 * k, by rw [w64 (by omega)]; omega, by omega, k, rfl, by omega, _, ldw c61 (by rw [hws.1]; omega), k, rfl, by omega, _, ldw t61 (by rw [hwt.1]; omega), ?_⟩
    rw [add32_wrap, wu64 (by have := add32_lt (S.getD k 0) (T.getD k 0); omega)]
    refine (Put_spec _ 4 (by omega) st61).mono ?_
    rintro _ st68 ⟨c1, rfl, ho⟩
    refine ⟨_, _, rfl, _, _, rfl, ho.le.getC o61, ?_, fun st72 h72 => ?_⟩
    · simp only [By_length, putL_len, hol]; split <;> omega
    have e1 : (if 64 = 4 * k then 0 else 0 + 4 * k * 1) = 4 * k := by split <;> omega
    have e2 : min (By (putL (add32 (S.getD k 0) (T.getD k 0)) 4)).length (64 - 4 * k) = 4 := by rw [By_length, putL_len]; omega
    rw [e1, e2, List.take_of_length_le (by rw [By_length, putL_len]; omega), By_flat, By_repl] at h72
    refine ⟨16 - (k + 1), by omega, k + 1, by rw [w64 (by omega)]; omega, by omega, rfl, ?_, ?_, ?_, ?_, ?_⟩
    · rw [h72]; exact (l61.trans ho.le).set (by omega) _
    · rw [h72]; exact cells_set (ho.le.getC o61)
    · rw [h72]; exact cells_set' (ho.le.getC t61) (by omega)
    · rw [h72]; exact cells_set' (ho.le.getC c61) (by omega)
    · rw [h72]; exact cells_set' (ho.le.getC r61) (by omega)
  have : k = 16 := by omega
  subst this
  refine ⟨_, ldvg o61 (by rw [By_length]; exact hol), by rw [By_length]; exact hol, rfl, _, r61, by simp, fun st76 h76 => ?_⟩
  rw [repl_all' (by rw [By_length, By_length, hol]; rfl)] at h76
  refine ⟨_, ldvg (by rw [h76]; exact cells_set r61) (by rw [By_length]; exact hol), ?_, by rw [h76]; exact l61.set hge _⟩
  rw [blockL, hSe, hTe]
theorem ldvf {st : St} {id off n : Nat} {agg : Bool} {cs : List V} {v : V} (h : st.cells id = some cs) (hv : fldV cs off n agg = some v) : st.ldv id off n agg = some v := by
  simp only [St.ldv, h, Option.bind_some]; exact hv
theorem RDouble_spec (s : List Nat) (hs : Wd s) : Gives Tryz.prog F_ref1_Double [.agg (W32 s)] (.agg (W32 (dbl s))) := by
  intro st
  refine w_ref1_Double ?_
  rintro st2 h2 st3 h3
  refine (quarters_spec st3).mono ?_
  rintro _ st5 ⟨rfl, hle5⟩
  have hle3 : st.le st3 := by subst h2 h3; exact (St.le.refl st).new _ |>.new _
  have hc0 : st3.cells st.next = some (W32 s) := by subst h2 h3; exact cells_new' (cells_new _ _)
  have hc1 : st3.cells st2.next = some (List.replicate 16 (.int .u32 0)) := by subst h3; exact cells_new _ _
  have hne : st2.next ≠ st.next := by subst h2; simp
  have hge2 : st.next ≤ st2.next := by subst h2; simp
  refine ⟨_, rfl, fun st7 h7 => ⟨rfl, rfl, List.replicate 32 (V.int .i64 0), by rw [h7]; exact cells_new _ _, by simp, fun st9 h9 => ?_⟩⟩
  rw [repl_all' (by rfl)] at h9
  have q9 : st9.cells st5.next = some placesV := by rw [h9]; exact cells_set (cs := List.replicate 32 (V.int .i64 0)) (by rw [h7]; exact cells_new _ _)
  have hn5 : st.next < st5.next := St.lt_of_cells (hle5.getC hc0)
  have hn5' : st2.next < st5.next := St.lt_of_cells (hle5.getC hc1)
  refine ⟨fun n i st' => ∃ k : Nat, i = k ∧ k ≤ 8 ∧ n = 8 - k ∧ st.le st' ∧ st'.cells st.next = some (W32 (dblk s k)) ∧ st'.cells st2.next = some (List.replicate 16 (.int .u32 0)) ∧ st'.cells st5.next = some placesV, ⟨8, 0, rfl, by omega, rfl, ?_, ?_, ?_, q9⟩, ?_⟩
  · rw [h9, h7]; exact ((hle3.trans hle5).new _).set (by omega) _
  · rw [h9]; exact cells_set' (by rw [h7]; exact cells_new' (hle5.getC hc0)) (by omega)
  · rw [h9]; exact cells_set' (by rw [h7]; exact cells_new' (hle5.getC hc1)) (by omega)
  rintro n _ st10 ⟨k, rfl, hk, rfl, hle, hc, hz, hq⟩
  have hwd := hs.dblk k
  generalize hS : dblk s k = S at hc hwd
  refine br (fun hlt => ?_) fun hgt => ?_
  · have hk8 : k < 8 := by omega
    obtain ⟨hf, b1, b2, b3, b4⟩ := pl_ok hk8
    generalize hp : pl k = p at hf b1 b2 b3 b4
    have hn10q : st5.next < st10.next := St.lt_of_cells hq
    refine ⟨k, rfl, hk8, _, _, _, _, by rw [Nat.zero_add]; exact ldvf hq hf, fun st16 h16 => ⟨rfl, rfl, [.int .i64 0, .int .i64 0, .int .i64 0, .int .i64 0], by rw [h16]; exact cells_new _ _, by simp, fun st18 h18 => ?_⟩⟩
    rw [repl_all' (by rfl)] at h18
    have hn10 : st.next < st10.next := St.lt_of_cells hc
    have hn10' : st2.next < st10.next := St.lt_of_cells hz
    have hp18 : st18.cells st10.next = some (p4 p) := by rw [h18]; exact cells_set (cs := [.int .i64 0, .int .i64 0, .int .i64 0, .int .i64 0]) (by rw [h16]; exact cells_new _ _)
    have hc18 : st18.cells st.next = some (W32 S) := by rw [h18]; exact cells_set' (by rw [h16]; exact cells_new' hc) (by omega)
    have hz18 : st18.cells st2.next = some (List.replicate 16 (.int .u32 0)) := by rw [h18]; exact cells_set' (by rw [h16]; exact cells_new' hz) (by omega)
    have hq18 : st18.cells st5.next = some placesV := by rw [h18]; exact cells_set' (by rw [h16]; exact cells_new' hq) (by omega)
    have hle18 : st.le st18 := by rw [h18, h16]; exact (hle.new _).set (by omega) _
    obtain ⟨l0, l1, l2, l3⟩ := ldp hp18
    have hl := hwd.1
    refine ⟨_, l0, p.1, rfl, b1, _, ldw hc18 (by omega), _, l1, p.2.1, rfl, b2, _, ldw hc18 (by omega), _, l2, p.2.2.1, rfl, b3, _, ldw hc18 (by omega), _, l3, p.2.2.2, rfl, b4, _, ldw hc18 (by omega), ?_⟩
    refine (RRound_spec _ _ _ _ (hwd.getD _) (hwd.getD _) (hwd.getD _) (hwd.getD _) st18).mono ?_
    rintro _ st36 ⟨rfl, hle36⟩
    generalize hr : rnd (S.getD p.1 0) (S.getD p.2.1 0) (S.getD p.2.2.1 0) (S.getD p.2.2.2 0) = r
    have hp36 := hle36.getC hp18
    have hc36 := hle36.getC hc18
    obtain ⟨l0, l1, l2, l3⟩ := ldp hp36
    refine ⟨_, _, _, _, rfl, _, l0, _, l1, _, l2, _, l3, p.1, rfl, b1, _, hc36, by simp; omega, fun st43 h43 => ?_⟩
    rw [Nat.mul_one, Nat.zero_add, W32_set] at h43
    have hp43 : st43.cells st10.next = some (p4 p) := by rw [h43]; exact cells_set' hp36 (by omega)
    have hc43 : st43.cells st.next = some (W32 (S.set p.1 r.1)) := by rw [h43]; exact cells_set hc36
    obtain ⟨l0, l1, l2, l3⟩ := ldp hp43
    refine ⟨l1, l2, l3, p.2.1, rfl, b2, _, hc43, by simp; omega, fun st46 h46 => ?_⟩
    rw [Nat.mul_one, Nat.zero_add, W32_set] at h46
    have hp46 : st46.cells st10.next = some (p4 p) := by rw [h46]; exact cells_set' hp43 (by omega)
    have hc46 := cells_set (cs' := W32 ((S.set p.1 r.1).set p.2.1 r.2.1)) hc43
    rw [← h46] at hc46
    obtain ⟨l0, l1, l2, l3⟩ := ldp hp46
    refine ⟨l2, l3, p.2.2.1, rfl, b3, _, hc46, by simp; omega, fun st49 h49 => ?_⟩
    rw [Nat.mul_one, Nat.zero_add, W32_set] at h49
    have hp49 : st49.cells st10.next = some (p4 p) := by rw [h49]; exact cells_set' hp46 (by omega)
    have hc49 := cells_set (cs' := W32 (((S.set p.1 r.1).set p.2.1 r.2.1).set p.2.2.1 r.2.2.1)) hc46
    rw [← h49] at hc49
    obtain ⟨l0, l1, l2, l3⟩ := ldp hp49
    refine ⟨l3, p.2.2.2, rfl, b4, _, hc49, by simp; omega, fun st52 h52 => ?_⟩
    rw [Nat.mul_one, Nat.zero_add, W32_set] at h52
    have hc52 := cells_set (cs' := W32 ((((S.set p.1 r.1).set p.2.1 r.2.1).set p.2.2.1 r.2.2.1).set p.2.2.2 r.2.2.2)) hc49
    rw [← h52] at hc52
    refine ⟨8 - (k + 1), by omega, k + 1, by rw [w64 (by omega)]; omega, by omega, rfl, ?_, ?_, ?_, ?_⟩
    · rw [h52, h49, h46, h43]
      exact ((((hle18.trans hle36).set (Nat.le_refl _) _).set (Nat.le_refl _) _).set (Nat.le_refl _) _).set (Nat.le_refl _) _
    · rw [hc52, dblk_step, hS, hp]
      simp only [step, hr]
    · rw [h52]; refine cells_set' ?_ hne
      rw [h49]; refine cells_set' ?_ hne
      rw [h46]; refine cells_set' ?_ hne
      rw [h43]; exact cells_set' (hle36.getC hz18) hne
    · rw [h52]; refine cells_set' ?_ (by omega)
      rw [h49]; refine cells_set' ?_ (by omega)
      rw [h46]; refine cells_set' ?_ (by omega)
      rw [h43]; exact cells_set' (hle36.getC hq18) (by omega)
  · have : k = 8 := by omega
    subst this
    refine ⟨_, ldvg hc (by rw [W32_length]; exact hwd.1), by rw [W32_length]; exact hwd.1, rfl, _, hz, by simp, fun st4 h4 => ?_⟩
    rw [repl_all' (by rw [W32_length, hwd.1]; rfl)] at h4
    refine ⟨_, ldvg (by rw [h4]; exact cells_set hz) (by rw [W32_length]; exact hwd.1), ?_, ?_⟩
    · rw [dbl, hS]
    · rw [h4]; exact hle.set hge2 _
theorem RBlock_spec (key nonce : List UInt8) (ctr : Nat) (hk : key.length = 32) (hn : nonce.length = 12) (hc : ctr < 2 ^ 32) :
    Gives Tryz.prog F_ref1_Block [.agg (By key), .agg (By nonce), .int .u32 ctr] (.agg (By (blockL key nonce ctr))) := by
  intro st
  refine w_ref1_Block ?_
  intro st4 h4 st5 h5 st6 h6
  obtain ⟨c7, c8, hle10, hR, hge⟩ := ten_le h4 h5 h6 rfl rfl
  refine ⟨By nonce, c7, fun st8 h8 => ⟨By key, by rw [h8]; exact c8, fun st10 h10 => ?_⟩⟩
  rw [← h8, ← h10] at hle10 hR
  have hRn : st5.next < st10.next := St.lt_of_cells hR
  have hsn : st.next ≤ st10.next := by omega
  intro st11 h11
  refine ⟨rfl, rfl, List.replicate 16 (V.int .u32 0), by rw [h11]; exact cells_new _ _, by simp, fun st13 h13 => ?_⟩
  rw [base_V, repl_all' (by rfl)] at h13
  have c13 : st13.cells st10.next = some (W32 base16) := by rw [h13]; exact cells_set (cs := List.replicate 16 (V.int .u32 0)) (by rw [h11]; exact cells_new _ _)
  have r13 : st13.cells st5.next = some (By (List.replicate 64 0)) := by rw [h13]; exact cells_set' (by rw [h11]; exact cells_new' hR) (by omega)
  have l13 : st.le st13 := by rw [h13, h11]; exact (hle10.new _).set hsn _
  clear h13 h11 h10 h8 h6 h5 h4 c7 c8
  refine ⟨fun m i st' => ∃ k : Nat, i = k ∧ k ≤ 8 ∧ m = 8 - k ∧ st.le st' ∧ st'.cells st10.next = some (W32 (fillW 4 key base16 k)) ∧ st'.cells st5.next = some (By (List.replicate 64 0)), ⟨8, 0, rfl, by omega, rfl, l13, c13, r13⟩, ?_⟩
  rintro _ _ st17 ⟨k, rfl, hk8, rfl, l17, c17, r17⟩
  refine br (fun hlt => ?_) fun hge8 => ?_
  · refine ⟨by rw [By_length]; omega, 4 * k, 4 * k + 4, by rw [w64 (by omega)]; omega, by rw [w64 (n := 4 * (k : Int)) (by omega), w64 (by omega)]; omega, by omega, by omega, ?_⟩
    rw [By_take, By_drop]
    refine (RGet_spec _ _ (by simp; omega) st17).mono ?_
    rintro _ st21 ⟨rfl, hle⟩
    have hw := (fillW_wd (at_ := 4) (b := key) base_wd k).1
    refine ⟨_, rfl, 4 + k, by rw [w64 (by omega)]; omega, by omega, _, hle.getC c17, by rw [W32_length]; omega, fun st25 h25 => ?_⟩
    have hkw := kw_lt key k
    unfold kw at hkw
    rw [Nat.mul_one, Nat.zero_add, wu32 (by omega), W32_set] at h25
    refine ⟨8 - (k + 1), by omega, k + 1, by rw [w64 (by omega)]; omega, by omega, rfl, ?_, ?_, ?_⟩
    · rw [h25]; exact (l17.trans hle).set hsn _
    · rw [h25]; exact cells_set (hle.getC c17)
    · rw [h25]; exact cells_set' (hle.getC r17) (by omega)
  have : k = 8 := by omega
  subst this
  have hw8 := fillW_wd (at_ := 4) (b := key) base_wd 8
  refine ⟨_, c17, by rw [W32_length, hw8.1]; decide, fun st28 h28 => ?_⟩
  rw [W32_set] at h28
  have c28 := cells_set (cs' := W32 ((fillW 4 key base16 8).set 12 ctr)) c17
  rw [← h28] at c28
  have r28 : st28.cells st5.next = some (By (List.replicate 64 0)) := by rw [h28]; exact cells_set' r17 (by omega)
  have l28 : st.le st28 := by rw [h28]; exact l17.set hsn _
  have hw12 := hw8.set 12 hc
  refine ⟨fun m i st' => ∃ k : Nat, i = k ∧ k ≤ 3 ∧ m = 3 - k ∧ st.le st' ∧ st'.cells st10.next = some (W32 (fillW 13 nonce ((fillW 4 key base16 8).set 12 ctr) k)) ∧ st'.cells st5.next = some (By (List.replicate 64 0)), ⟨3, 0, rfl, by omega, rfl, l28, c28, r28⟩, ?_⟩
  rintro _ _ st32 ⟨k, rfl, hk3, rfl, l32, c32, r32⟩
  refine br (fun hlt => ?_) fun hge3 => ?_
  · refine ⟨by rw [By_length]; omega, 4 * k, 4 * k + 4, by rw [w64 (by omega)]; omega, by rw [w64 (n := 4 * (k : Int)) (by omega), w64 (by omega)]; omega, by omega, by omega, ?_⟩
    rw [By_take, By_drop]
    refine (RGet_spec _ _ (by simp; omega) st32).mono ?_
    rintro _ st36 ⟨rfl, hle⟩
    have hw := (fillW_wd (at_ := 13) (b := nonce) hw12 k).1
    refine ⟨_, rfl, 13 + k, by rw [w64 (by omega)]; omega, by omega, _, hle.getC c32, by rw [W32_length]; omega, fun st40 h40 => ?_⟩
    have hkw := kw_lt nonce k
    unfold kw at hkw
    rw [Nat.mul_one, Nat.zero_add, wu32 (by omega), W32_set] at h40
    refine ⟨3 - (k + 1), by omega, k + 1, by rw [w64 (by omega)]; omega, by omega, rfl, ?_, ?_, ?_⟩
    · rw [h40]; exact (l32.trans hle).set hsn _
    · rw [h40]; exact cells_set (hle.getC c32)
    · rw [h40]; exact cells_set' (hle.getC r32) (by omega)
  have : k = 3 := by omega
  subst this
  have hws := ini_wd key nonce hc
  have hS : fillW 13 nonce ((fillW 4 key base16 8).set 12 ctr) 3 = iniL key nonce ctr := rfl
  rw [hS] at c32
  generalize hSe : iniL key nonce ctr = S at c32 hws
  refine ⟨_, ldvg c32 (by rw [W32_length]; exact hws.1), fun st43 h43 => ⟨by rw [W32_length]; exact hws.1, rfl, List.replicate 16 (V.int .u32 0), by rw [h43]; exact cells_new _ _, by simp, fun st45 h45 => ?_⟩⟩
  rw [repl_all' (by rw [W32_length, hws.1]; rfl)] at h45
  have hn10 : st10.next < st32.next := St.lt_of_cells c32
  have hn5 : st5.next < st32.next := St.lt_of_cells r32
  have t45 : st45.cells st32.next = some (W32 S) := by rw [h45]; exact cells_set (cs := List.replicate 16 (V.int .u32 0)) (by rw [h43]; exact cells_new _ _)
  have c45 : st45.cells st10.next = some (W32 S) := by rw [h45]; exact cells_set' (by rw [h43]; exact cells_new' c32) (by omega)
  have r45 : st45.cells st5.next = some (By (List.replicate 64 0)) := by rw [h45]; exact cells_set' (by rw [h43]; exact cells_new' r32) (by omega)
  have l45 : st.le st45 := by rw [h45, h43]; exact (l32.new _).set (by omega) _
  refine ⟨fun m i st' => ∃ k : Nat, i = k ∧ k ≤ 10 ∧ m = 10 - k ∧ st.le st' ∧ st'.cells st32.next = some (W32 (itr S k)) ∧ st'.cells st10.next = some (W32 S) ∧ st'.cells st5.next = some (By (List.replicate 64 0)), ⟨10, 0, rfl, by omega, rfl, l45, t45, c45, r45⟩, ?_⟩
  rintro _ _ st49 ⟨k, rfl, hk10, rfl, l49, t49, c49, r49⟩
  have hwt := itr_wd hws k
  refine br (fun hlt => ?_) fun hge10 => ?_
  · refine ⟨_, ldvg t49 (by rw [W32_length]; exact hwt.1), ?_⟩
    refine (RDouble_spec _ hwt st49).mono ?_
    rintro _ st52 ⟨rfl, hle⟩
    refine ⟨_, rfl, by rw [W32_length]; exact (itr_wd hws (k + 1)).1, rfl, _, hle.getC t49, by rw [W32_length, hwt.1]; decide, fun st55 h55 => ?_⟩
    rw [repl_all' (by rw [W32_length, W32_length, hwt.1]; exact (itr_wd hws (k + 1)).1)] at h55
    refine ⟨10 - (k + 1), by omega, k + 1, by rw [w64 (by omega)]; omega, by omega, rfl, ?_, ?_, ?_, ?_⟩
    · rw [h55]; exact (l49.trans hle).set (by omega) _
    · rw [h55]; exact cells_set (hle.getC t49)
    · rw [h55]; exact cells_set' (hle.getC c49) (by omega)
    · rw [h55]; exact cells_set' (hle.getC r49) (by omega)
  have : k = 10 := by omega
  subst this
  generalize hTe : itr S 10 = T at t49 hwt
  intro st57 h57
  have hn49 : st32.next < st49.next := St.lt_of_cells t49
  refine ⟨fun m i st' => ∃ k : Nat, i = k ∧ k ≤ 16 ∧ m = 16 - k ∧ st.le st' ∧ st'.cells st49.next = some (By (outL S T k)) ∧ st'.cells st32.next = some (W32 T) ∧ st'.cells st10.next = some (W32 S) ∧ st'.cells st5.next = some (By (List.replicate 64 0)),
    ⟨16, 0, rfl, by omega, rfl, by rw [h57]; exact l49.new _, by rw [h57]; exact cells_new _ _, by rw [h57]; exact cells_new' t49, by rw [h57]; exact cells_new' c49, by rw [h57]; exact cells_new' r49⟩, ?_⟩
  rintro _ _ st61 ⟨k, rfl, hk16, rfl, l61, o61, t61, c61, r61⟩
  have hol := outL_len S T hk16
  refine br (fun hlt => ?_) fun hge16 => ?_
  · refine ⟨k, rfl, by omega, _, ldw t61 (by rw [hwt.1]; omega), k, rfl, by omega, _, ldw c61 (by rw [hws.1]; omega), ?_⟩
    rw [add32_wrap, show add32 (T.getD k 0) (S.getD k 0) = add32 (S.getD k 0) (T.getD k 0) by unfold add32; rw [Nat.add_comm]]
    have hX := add32_lt (S.getD k 0) (T.getD k 0)
    have hout : outL S T (k + 1) = repl (outL S T k) (4 * k) (putL (add32 (S.getD k 0) (T.getD k 0)) 4) := rfl
    generalize add32 (S.getD k 0) (T.getD k 0) = X at hX hout
    refine ⟨fun m i st' => ∃ q : Nat, i = q ∧ q ≤ 4 ∧ m = 4 - q ∧ st.le st' ∧ st'.cells st49.next = some (By (repl (outL S T k) (4 * k) (putL X q))) ∧ st'.cells st32.next = some (W32 T) ∧ st'.cells st10.next = some (W32 S) ∧ st'.cells st5.next = some (By (List.replicate 64 0)),
      ⟨4, 0, rfl, by omega, rfl, l61, by rw [putL, repl_nil]; exact o61, t61, c61, r61⟩, ?_⟩
    rintro _ _ st69 ⟨q, rfl, hq4, rfl, l69, o69, t69, c69, r69⟩
    have hol2 : (repl (outL S T k) (4 * k) (putL X q)).length = 64 := by rw [length_repl _ _ _ (by rw [putL_len]; omega)]; exact hol
    refine br (fun hlt4 => ?_) fun hge4 => ?_
    · rw [w64 (n := 8 * (q : Int)) (by omega), wu64 (n := 8 * (q : Int)) (by omega), w64 (n := 4 * (k : Int)) (by omega), w64 (by omega)]
      refine ⟨by omega, 4 * k + q, by omega, by omega, _, o69, by rw [By_length]; omega, fun st72 h72 => ?_⟩
      rw [show (8 * (q : Int)).toNat = 8 * q by omega, Nat.min_eq_left (by omega), fdiv_pow, wrap_u8_of, Nat.pow_mul, show (2 : Nat) ^ 8 = 256 from rfl, Nat.mul_one, Nat.zero_add] at h72
      have hset : (By (repl (outL S T k) (4 * k) (putL X q))).set (4 * k + q) (V.int .u8 ((UInt8.ofNat (X / 256 ^ q)).toNat : Int)) = By (repl (outL S T k) (4 * k) (putL X (q + 1))) := by
        rw [← repl_one _ _ _ (by rw [By_length]; omega), By_one, By_repl, putL_succ]
        have := repl_repl (outL S T k) (4 * k) (putL X q) [UInt8.ofNat (X / 256 ^ q)] (by rw [putL_len]; simp; omega)
        rw [putL_len] at this
        rw [this]
      rw [hset] at h72
      refine ⟨4 - (q + 1), by omega, q + 1, by rw [w64 (by omega)]; omega, by omega, rfl, ?_, ?_, ?_, ?_, ?_⟩
      · rw [h72]; exact l69.set (by omega) _
      · rw [h72]; exact cells_set o69
      · rw [h72]; exact cells_set' t69 (by omega)
      · rw [h72]; exact cells_set' c69 (by omega)
      · rw [h72]; exact cells_set' r69 (by omega)
    · have : q = 4 := by omega
      subst this
      exact ⟨16 - (k + 1), by omega, k + 1, by rw [w64 (by omega)]; omega, by omega, rfl, l69, by rw [hout]; exact o69, t69, c69, r69⟩
  have : k = 16 := by omega
  subst this
  refine ⟨_, ldvg o61 (by rw [By_length]; exact hol), by rw [By_length]; exact hol, rfl, _, r61, by simp, fun st76 h76 => ?_⟩
  rw [repl_all' (by rw [By_length, By_length, hol]; rfl)] at h76
  refine ⟨_, ldvg (by rw [h76]; exact cells_set r61) (by rw [By_length]; exact hol), ?_, by rw [h76]; exact l61.set hge _⟩
  rw [blockL, hSe, hTe]
end Go.Proofs.YtffenelcgjdbiaaGreatDoor
namespace Go.Proofs.YtffenelcgjdbiaaGreatDoor
open Go Go.Sim
set_option maxRecDepth 100000
def strB (key nonce : List UInt8) (ctr i : Nat) : UInt8 := (blockL key nonce (ctr + i / 64)).getD (i % 64) 0
def xorAt (key nonce : List UInt8) (ctr : Nat) : Nat → List UInt8 → List UInt8
  | _, [] => []
  | i, c :: r => (c ^^^ strB key nonce ctr i) :: xorAt key nonce ctr (i + 1) r
def xorL (key nonce : List UInt8) (ctr : Nat) (b : List UInt8) : List UInt8 := xorAt key nonce ctr 0 b
theorem xorAt_len (key nonce : List UInt8) (ctr i : Nat) (b : List UInt8) : (xorAt key nonce ctr i b).length = b.length := by
  induction b generalizing i with
  | nil => rfl
  | cons c b ih => simp [xorAt, ih]
@[simp] theorem xorL_len (key nonce : List UInt8) (ctr : Nat) (b : List UInt8) : (xorL key nonce ctr b).length = b.length := xorAt_len _ _ _ _ _
theorem xorAt_get (key nonce : List UInt8) (ctr i : Nat) (b : List UInt8) {k : Nat} (h : k < b.length) : (xorAt key nonce ctr i b)[k]? = some (b[k] ^^^ strB key nonce ctr (i + k)) := by
  induction b generalizing i k with
  | nil => simp at h
  | cons c b ih =>
    cases k with
    | zero => simp [xorAt]
    | succ k =>
      simp only [xorAt, List.getElem?_cons_succ, List.getElem_cons_succ]
      rw [ih (i + 1) (by simpa using h), show i + 1 + k = i + (k + 1) by omega]
theorem xor_twice (key nonce : List UInt8) (ctr : Nat) (b : List UInt8) : xorL key nonce ctr (xorL key nonce ctr b) = b := by
  have : ∀ i, xorAt key nonce ctr i (xorAt key nonce ctr i b) = b := by
    induction b with
    | nil => intro i; rfl
    | cons c b ih => intro i; simp [xorAt, ih, UInt8.xor_assoc]
  exact this 0
def xk (key nonce : List UInt8) (ctr : Nat) (b : List UInt8) (n : Nat) : List UInt8 := (xorL key nonce ctr b).take n ++ b.drop n
theorem xk_zero (key nonce : List UInt8) (ctr : Nat) (b : List UInt8) : xk key nonce ctr b 0 = b := by simp [xk]
theorem xk_all (key nonce : List UInt8) (ctr : Nat) (b : List UInt8) : xk key nonce ctr b b.length = xorL key nonce ctr b := by
  rw [xk, List.drop_length, List.append_nil, List.take_of_length_le (by rw [xorL_len]; exact Nat.le_refl _)]
@[simp] theorem xk_len (key nonce : List UInt8) (ctr : Nat) (b : List UInt8) (n : Nat) : (xk key nonce ctr b n).length = b.length := by simp [xk]; omega
theorem xk_get {key nonce : List UInt8} {ctr : Nat} {b : List UInt8} {n : Nat} (h : n < b.length) (sp : List UInt8) : (By (xk key nonce ctr b n ++ sp))[n]? = some (.int .u8 (b[n].toNat : Int)) := by
  have hl : n < (xk key nonce ctr b n ++ sp).length := by simp; omega
  rw [By_get hl]
  congr 3
  rw [List.getElem_append_left (by simp; omega)]
  simp only [xk]
  have e : (List.take n (xorL key nonce ctr b)).length = n := by simp; omega
  have hx : ∀ i (hi : i < b.length), i = n → b[i] = b[n] := by intro i hi e; subst e; rfl
  rw [List.getElem_append_right (by omega), List.getElem_drop]
  exact congrArg UInt8.toNat (hx _ _ (by omega))
theorem xk_set {key nonce : List UInt8} {ctr : Nat} {b : List UInt8} {n : Nat} (h : n < b.length) (sp : List UInt8) :
    (By (xk key nonce ctr b n ++ sp)).set n (.int .u8 ((b[n] ^^^ strB key nonce ctr n).toNat : Int)) = By (xk key nonce ctr b (n + 1) ++ sp) := by
  have hs : (By (xk key nonce ctr b n ++ sp)).set n (.int .u8 ((b[n] ^^^ strB key nonce ctr n).toNat : Int)) = By ((xk key nonce ctr b n ++ sp).set n (b[n] ^^^ strB key nonce ctr n)) := by
    simp [By, List.map_set]
  rw [hs]
  congr 1
  rw [List.set_append_left _ _ (by simp; omega)]
  congr 1
  have hx : (xorL key nonce ctr b)[n]? = some (b[n] ^^^ strB key nonce ctr n) := by
    have := xorAt_get key nonce ctr 0 b h
    rwa [Nat.zero_add] at this
  have hl : n < (xorL key nonce ctr b).length := by rw [xorL_len]; exact h
  rw [List.getElem?_eq_getElem hl, Option.some.injEq] at hx
  simp only [xk]
  rw [List.set_append_right _ _ (by simp; omega)]
  rw [show n - (List.take n (xorL key nonce ctr b)).length = 0 by simp; omega]
  rw [List.drop_eq_getElem_cons h, List.set_cons_zero, List.take_succ_eq_append_getElem hl, hx, List.append_assoc]
  rfl
theorem str_get {key nonce : List UInt8} {ctr a j : Nat} (h : j < 64) : (By (blockL key nonce (ctr + a)))[j]? = some (.int .u8 ((strB key nonce ctr (64 * a + j)).toNat : Int)) := by
  have e : strB key nonce ctr (64 * a + j) = (blockL key nonce (ctr + a)).getD j 0 := by
    unfold strB
    rw [show (64 * a + j) / 64 = a by omega, show (64 * a + j) % 64 = j by omega]
  have hl := block_len key nonce (ctr + a)
  rw [e]
  generalize blockL key nonce (ctr + a) = B at hl
  rw [By_get (by omega), List.getD_eq_getElem?_getD, List.getElem?_eq_getElem (by omega)]
  rfl
theorem Xor_spec (key nonce b : List UInt8) (ctr : Nat) (c : Cap) (hk : key.length = 32) (hn : nonce.length = 12) (hb : b ≠ []) (hl : b.length < 2 ^ 32) (hc : ctr + (b.length + 63) / 64 ≤ 2 ^ 32) (st : St) :
    RCall Tryz.prog F_chac_Xor [.agg (By key), .agg (By nonce), .int .u32 ctr, .lst 1 (By b) c] st fun r st' => ∃ c', r = .ret (.tup [.lst 1 (By (xorL key nonce ctr b)) c', .bool true]) ∧ Own st st' c' := by
  refine w_chac_Xor ?_
  rw [By_length]
  intro st5 h5 st6 h6 K hK
  have hpos : 0 < b.length := List.length_pos_iff.2 hb
  have e1 : IntKind.i64.wrap (Int.tdiv (IntKind.i64.wrap ((IntKind.i64.wrap ((b.length : Int) + 64)) - 1)) 64) = (((b.length + 63) / 64 : Nat) : Int) := by
    rw [w64 (n := (b.length : Int) + 64) (by omega), w64 (n := (b.length : Int) + 64 - 1) (by omega)]
    rw [show (b.length : Int) + 64 - 1 = ((b.length + 63 : Nat) : Int) by omega, show (64 : Int) = ((64 : Nat) : Int) from rfl, tdiv_nat, w64 (by omega)]
  rw [e1]
  refine br (fun _ => ?_) fun h => by omega
  have e2 : decide ((IntKind.u64.wrap ((IntKind.u64.wrap ((IntKind.u64.wrap (ctr : Int)) + (IntKind.u64.wrap (((b.length + 63) / 64 : Nat) : Int)))) - 1)) > 4294967295) = false := by
    rw [wu64 (n := (ctr : Int)) (by omega), wu64 (n := (((b.length + 63) / 64 : Nat) : Int)) (by omega), wu64 (n := (ctr : Int) + _) (by omega), wu64 (by omega)]
    simp; omega
  rw [e2]
  have k5 : st5.cells st.next = some (By key) := by rw [h5]; exact cells_new _ _
  have k6 : st6.cells st.next = some (By key) := by rw [h6]; exact cells_new' k5
  have n6 : st6.cells st5.next = some (By nonce) := by rw [h6]; exact cells_new _ _
  have hne : st.next < st5.next := by rw [h5]; simp
  have hne6 : st5.next < st6.next := by rw [h6]; simp
  have l6 : st.le st6 := by rw [h6, h5]; exact ((St.le.refl st).new _).new _
  refine hK _ _ ⟨fun h => (by cases h), fun _ => ⟨rfl, By b, rfl, by intro h; apply hb; cases b; rfl; simp [By] at h, by rw [By_length]; omega, fun k st12 hkl h12 => ?_⟩⟩
  rw [By_length, Nat.zero_add] at hkl
  have ho : flat ([] : List V) ++ flat (By b) ++ spare (.int .u8 0) (0 + (By b).length) k = By (b ++ List.replicate (k - b.length) 0) := by
    rw [By_flat, spare_u8, By_length, Nat.zero_add, By_append]; rfl
  rw [ho] at h12
  have hspl : b.length + (List.replicate (k - b.length) (0 : UInt8)).length = k := by simp; omega
  generalize List.replicate (k - b.length) (0 : UInt8) = sp at h12 hspl
  rw [show 0 + (By b).length = b.length by rw [By_length, Nat.zero_add]]
  refine ⟨fun m i st' => ∃ a : Nat, i = ((64 * a : Nat) : Int) ∧ 64 * a < b.length + 64 ∧ m = b.length + 64 - 64 * a ∧ st.le st' ∧ st'.cells st.next = some (By key) ∧ st'.cells st5.next = some (By nonce) ∧ st'.cells st6.next = some (By (xk key nonce ctr b (min (64 * a) b.length) ++ sp)),
    ⟨b.length + 64, 0, rfl, by omega, by omega, by rw [h12]; exact l6.new _, by rw [h12]; exact cells_new' k6, by rw [h12]; exact cells_new' n6, by rw [h12, Nat.mul_zero, Nat.zero_min, xk_zero]; exact cells_new _ _⟩, ?_⟩
  rintro _ _ st16 ⟨a, rfl, ha, rfl, l16, k16, n16, o16⟩
  refine br (fun hlt => ?_) fun hge => ?_
  · have hlt : 64 * a < b.length := by omega
    refine ⟨_, ldvg k16 (by rw [By_length]; exact hk), _, ldvg n16 (by rw [By_length]; exact hn), ?_⟩
    have e3 : IntKind.u32.wrap ((ctr : Int) + (IntKind.u32.wrap (IntKind.i64.wrap (Int.tdiv ((64 * a : Nat) : Int) 64)))) = ((ctr + a : Nat) : Int) := by
      rw [show (64 : Int) = ((64 : Nat) : Int) from rfl, tdiv_nat, show 64 * a / 64 = a by omega, w64 (by omega), wu32 (n := (a : Int)) (by omega), wu32 (n := (ctr : Int) + (a : Int)) (by omega)]; omega
    rw [e3]
    refine (Block_spec key nonce (ctr + a) hk hn (by omega) st16).mono ?_
    rintro _ st20 ⟨rfl, hle⟩
    refine ⟨_, rfl, fun st22 h22 => ⟨by rw [By_length]; exact block_len _ _ _, rfl, By (List.replicate 64 0), by rw [h22]; exact cells_new _ _, by simp, fun st24 h24 => ?_⟩⟩
    rw [repl_all' (by rw [By_length, By_length, block_len]; rfl)] at h24
    have k20 := hle.getC k16
    have n20 := hle.getC n16
    have o20 := hle.getC o16
    have hk20 := St.lt_of_cells k20
    have hn20 := St.lt_of_cells n20
    have ho20 := St.lt_of_cells o20
    have s24 : st24.cells st20.next = some (By (blockL key nonce (ctr + a))) := by rw [h24]; exact cells_set (cs := By (List.replicate 64 0)) (by rw [h22]; exact cells_new _ _)
    have k24 : st24.cells st.next = some (By key) := by rw [h24]; exact cells_set' (by rw [h22]; exact cells_new' k20) (by omega)
    have n24 : st24.cells st5.next = some (By nonce) := by rw [h24]; exact cells_set' (by rw [h22]; exact cells_new' n20) (by omega)
    have o24 := cells_set' (id := st20.next) (cs' := By (blockL key nonce (ctr + a))) (cells_new' (cs := By (List.replicate 64 0)) o20) (by omega)
    have l24 : st.le st24 := by rw [h24, h22]; exact ((l16.trans hle).new _).set (by omega) _
    have h22' : st22 = st20.newC (By (List.replicate 64 0)) := h22
    rw [← h22', ← h24, Nat.min_eq_left (by omega)] at o24
    clear h24 h22 h22' o20 n20 k20
    generalize hJ : min (64 * a + 64) b.length = j
    have e4 : min (IntKind.i64.wrap (((64 * a : Nat) : Int) + 64)) ((b.length : Nat) : Int) = (j : Int) := by rw [w64 (by omega)]; omega
    refine ⟨64 * a, j, rfl, e4, by omega, by omega, ?_⟩
    refine ⟨fun m i st' => ∃ q : Nat, i = q ∧ q ≤ j - 64 * a ∧ m = j - 64 * a - q ∧ st.le st' ∧ st'.cells st.next = some (By key) ∧ st'.cells st5.next = some (By nonce) ∧ st'.cells st20.next = some (By (blockL key nonce (ctr + a))) ∧ st'.cells st6.next = some (By (xk key nonce ctr b (64 * a + q) ++ sp)),
      ⟨j - 64 * a, 0, rfl, by omega, by omega, l24, k24, n24, s24, o24⟩, ?_⟩
    rintro _ _ st30 ⟨q, rfl, hq, rfl, l30, k30, n30, s30, o30⟩
    refine br (fun hql => ?_) fun hqg => ?_
    · have hi : 64 * a + q < b.length := by omega
      have e5 : IntKind.i64.wrap (((64 * a : Nat) : Int) + (q : Int)) = ((64 * a + q : Nat) : Int) := by rw [w64 (by omega)]; omega
      rw [e5]
      refine ⟨64 * a + q, rfl, by omega, _, ldv1 o30 (by rw [Nat.mul_one, Nat.zero_add]; exact xk_get hi sp), q, rfl, by omega, _, ldv1 s30 (by rw [Nat.mul_one, Nat.zero_add]; exact str_get (by omega)), 64 * a + q, rfl, by omega, _, o30, by simp; omega, fun st37 h37 => ?_⟩
      rw [Nat.mul_one, Nat.zero_add, xor_8, xk_set hi] at h37
      refine ⟨j - 64 * a - (q + 1), by omega, q + 1, by rw [w64 (by omega)]; omega, by omega, rfl, ?_, ?_, ?_, ?_, ?_⟩
      · rw [h37]; exact l30.set (by omega) _
      · rw [h37]; exact cells_set' k30 (by omega)
      · rw [h37]; exact cells_set' n30 (by omega)
      · rw [h37]; exact cells_set' s30 (by omega)
      · rw [h37]; exact cells_set o30
    · have : 64 * a + q = j := by omega
      rw [this] at o30
      exact ⟨b.length + 64 - 64 * (a + 1), by omega, a + 1, by rw [w64 (by omega)]; omega, by omega, rfl, l30, k30, n30, by rw [show 64 * (a + 1) = 64 * a + 64 by omega, hJ]; exact o30⟩
  · rw [Nat.min_eq_right (by omega), xk_all] at o16
    have hf := frz_By (l := xorL key nonce ctr b) (sp := sp) (cap := k) (by rw [xorL_len]; exact hspl)
    rw [xorL_len] at hf
    refine ⟨_, _, o16, hf, fun st42 h42 => ⟨_, rfl, ?_⟩⟩
    rw [h42]; exact Own.frz l16 (by omega)
theorem RXor_spec (key nonce b : List UInt8) (ctr : Nat) (c : Cap) (hk : key.length = 32) (hn : nonce.length = 12) (hb : b ≠ []) (hl : b.length < 2 ^ 32) (hc : ctr + (b.length + 63) / 64 ≤ 2 ^ 32) (st : St) :
    RCall Tryz.prog F_ref1_Xor [.agg (By key), .agg (By nonce), .int .u32 ctr, .lst 1 (By b) c] st fun r st' => ∃ c', r = .ret (.tup [.lst 1 (By (xorL key nonce ctr b)) c', .bool true]) ∧ Own st st' c' := by
  refine w_ref1_Xor ?_
  rw [By_length]
  intro st5 h5 st6 h6
  have hpos : 0 < b.length := List.length_pos_iff.2 hb
  have e1 : IntKind.i64.wrap (Int.tdiv (IntKind.i64.wrap ((b.length : Int) + 63)) 64) = (((b.length + 63) / 64 : Nat) : Int) := by
    rw [w64 (n := (b.length : Int) + 63) (by omega)]
    rw [show (b.length : Int) + 63 = ((b.length + 63 : Nat) : Int) by omega, show (64 : Int) = ((64 : Nat) : Int) from rfl, tdiv_nat, w64 (by omega)]
  rw [e1, w64 (n := (ctr : Int)) (by omega), w64 (n := 4294967296 - (ctr : Int)) (by omega)]
  refine br (fun h => by omega) fun _ => ?_
  have k5 : st5.cells st.next = some (By key) := by rw [h5]; exact cells_new _ _
  have k6 : st6.cells st.next = some (By key) := by rw [h6]; exact cells_new' k5
  have n6 : st6.cells st5.next = some (By nonce) := by rw [h6]; exact cells_new _ _
  have hne : st.next < st5.next := by rw [h5]; simp
  have hne6 : st5.next < st6.next := by rw [h6]; simp
  have l6 : st.le st6 := by rw [h6, h5]; exact ((St.le.refl st).new _).new _
  refine ⟨rfl, By b, rfl, by intro h; apply hb; cases b; rfl; simp [By] at h, by rw [By_length]; omega, fun k st12 hkl h12 => ?_⟩
  rw [By_length, Nat.zero_add] at hkl
  have ho : flat ([] : List V) ++ flat (By b) ++ spare (.int .u8 0) (0 + (By b).length) k = By (b ++ List.replicate (k - b.length) 0) := by
    rw [By_flat, spare_u8, By_length, Nat.zero_add, By_append]; rfl
  rw [ho] at h12
  have hspl : b.length + (List.replicate (k - b.length) (0 : UInt8)).length = k := by simp; omega
  generalize List.replicate (k - b.length) (0 : UInt8) = sp at h12 hspl
  rw [show 0 + (By b).length = b.length by rw [By_length, Nat.zero_add]]
  refine ⟨fun m i st' => ∃ a : Nat, i = ((64 * a : Nat) : Int) ∧ 64 * a < b.length + 64 ∧ m = b.length + 64 - 64 * a ∧ st.le st' ∧ st'.cells st.next = some (By key) ∧ st'.cells st5.next = some (By nonce) ∧ st'.cells st6.next = some (By (xk key nonce ctr b (min (64 * a) b.length) ++ sp)),
    ⟨b.length + 64, 0, rfl, by omega, by omega, by rw [h12]; exact l6.new _, by rw [h12]; exact cells_new' k6, by rw [h12]; exact cells_new' n6, by rw [h12, Nat.mul_zero, Nat.zero_min, xk_zero]; exact cells_new _ _⟩, ?_⟩
  rintro _ _ st16 ⟨a, rfl, ha, rfl, l16, k16, n16, o16⟩
  refine br (fun hlt => ?_) fun hge => ?_
  · have hlt : 64 * a < b.length := by omega
    refine ⟨_, ldvg k16 (by rw [By_length]; exact hk), _, ldvg n16 (by rw [By_length]; exact hn), ?_⟩
    have e3 : IntKind.u32.wrap ((ctr : Int) + (IntKind.u32.wrap (IntKind.i64.wrap (Int.tdiv ((64 * a : Nat) : Int) 64)))) = ((ctr + a : Nat) : Int) := by
      rw [show (64 : Int) = ((64 : Nat) : Int) from rfl, tdiv_nat, show 64 * a / 64 = a by omega, w64 (by omega), wu32 (n := (a : Int)) (by omega), wu32 (n := (ctr : Int) + (a : Int)) (by omega)]; omega
    rw [e3]
    refine (RBlock_spec key nonce (ctr + a) hk hn (by omega) st16).mono ?_
    rintro _ st20 ⟨rfl, hle⟩
    refine ⟨_, rfl, fun st22 h22 => ⟨by rw [By_length]; exact block_len _ _ _, rfl, By (List.replicate 64 0), by rw [h22]; exact cells_new _ _, by simp, fun st24 h24 => ?_⟩⟩
    rw [repl_all' (by rw [By_length, By_length, block_len]; rfl)] at h24
    have k20 := hle.getC k16
    have n20 := hle.getC n16
    have o20 := hle.getC o16
    have hk20 := St.lt_of_cells k20
    have hn20 := St.lt_of_cells n20
    have ho20 := St.lt_of_cells o20
    have s24 : st24.cells st20.next = some (By (blockL key nonce (ctr + a))) := by rw [h24]; exact cells_set (cs := By (List.replicate 64 0)) (by rw [h22]; exact cells_new _ _)
    have k24 : st24.cells st.next = some (By key) := by rw [h24]; exact cells_set' (by rw [h22]; exact cells_new' k20) (by omega)
    have n24 : st24.cells st5.next = some (By nonce) := by rw [h24]; exact cells_set' (by rw [h22]; exact cells_new' n20) (by omega)
    have o24 := cells_set' (id := st20.next) (cs' := By (blockL key nonce (ctr + a))) (cells_new' (cs := By (List.replicate 64 0)) o20) (by omega)
    have l24 : st.le st24 := by rw [h24, h22]; exact ((l16.trans hle).new _).set (by omega) _
    have h22' : st22 = st20.newC (By (List.replicate 64 0)) := h22
    rw [← h22', ← h24, Nat.min_eq_left (by omega)] at o24
    clear h24 h22 h22' o20 n20 k20
    generalize hJ : min (64 * a + 64) b.length = j
    refine ⟨fun m i st' => ∃ q : Nat, i = q ∧ q ≤ j - 64 * a ∧ m = j - 64 * a - q ∧ st.le st' ∧ st'.cells st.next = some (By key) ∧ st'.cells st5.next = some (By nonce) ∧ st'.cells st20.next = some (By (blockL key nonce (ctr + a))) ∧ st'.cells st6.next = some (By (xk key nonce ctr b (64 * a + q) ++ sp)),
      ⟨j - 64 * a, 0, rfl, by omega, by omega, l24, k24, n24, s24, o24⟩, ?_⟩
    rintro _ _ st30 ⟨q, rfl, hq, rfl, l30, k30, n30, s30, o30⟩
    have e5 : IntKind.i64.wrap (((64 * a : Nat) : Int) + (q : Int)) = ((64 * a + q : Nat) : Int) := by rw [w64 (by omega)]; omega
    rw [e5]
    have hj1 : ¬ ((q : Int) < 64) → 64 * a + q = j := fun h => by omega
    have hj2 : ¬ (((64 * a + q : Nat) : Int) < (b.length : Int)) → 64 * a + q = j := fun h => by omega
    have stop : 64 * a + q = j → ∃ n37, n37 < b.length + 64 - 64 * a ∧ ∃ a' : Nat, IntKind.i64.wrap (((64 * a : Nat) : Int) + 64) = ((64 * a' : Nat) : Int) ∧ 64 * a' < b.length + 64 ∧ n37 = b.length + 64 - 64 * a' ∧ st.le st30 ∧ st30.cells st.next = some (By key) ∧ st30.cells st5.next = some (By nonce) ∧ st30.cells st6.next = some (By (xk key nonce ctr b (min (64 * a') b.length) ++ sp)) := by
      intro this
      rw [this] at o30
      exact ⟨b.length + 64 - 64 * (a + 1), by omega, a + 1, by rw [w64 (by omega)]; omega, by omega, rfl, l30, k30, n30, by rw [show 64 * (a + 1) = 64 * a + 64 by omega, hJ]; exact o30⟩
    intro K27 hK27
    refine br (fun hql => ?_) fun hqg => ?_
    · refine hK27 _ _ ⟨fun hi => ?_, fun hi => stop (hj2 (of_decide_eq_false hi))⟩
      clear stop
      have hi : 64 * a + q < b.length := by have := of_decide_eq_true hi; omega
      refine ⟨64 * a + q, rfl, by omega, _, ldv1 o30 (by rw [Nat.mul_one, Nat.zero_add]; exact xk_get hi sp), q, rfl, by omega, _, ldv1 s30 (by rw [Nat.mul_one, Nat.zero_add]; exact str_get (by omega)), 64 * a + q, rfl, by omega, _, o30, by simp; omega, fun st37 h37 => ?_⟩
      rw [Nat.mul_one, Nat.zero_add, xor_8, xk_set hi] at h37
      refine ⟨j - 64 * a - (q + 1), by omega, q + 1, by rw [w64 (by omega)]; omega, by omega, rfl, ?_, ?_, ?_, ?_, ?_⟩
      · rw [h37]; exact l30.set (by omega) _
      · rw [h37]; exact cells_set' k30 (by omega)
      · rw [h37]; exact cells_set' n30 (by omega)
      · rw [h37]; exact cells_set' s30 (by omega)
      · rw [h37]; exact cells_set o30
    · exact hK27 _ _ ⟨fun h => (by cases h), fun _ => stop (hj1 hqg)⟩
  · rw [Nat.min_eq_right (by omega), xk_all] at o16
    have hf := frz_By (l := xorL key nonce ctr b) (sp := sp) (cap := k) (by rw [xorL_len]; exact hspl)
    rw [xorL_len] at hf
    refine ⟨_, _, o16, hf, fun st42 h42 => ⟨_, rfl, ?_⟩⟩
    rw [h42]; exact Own.frz l16 (by omega)
end Go.Proofs.YtffenelcgjdbiaaGreatDoor
namespace Go.Proofs.YtffenelcgjdbiaaGreatDoor
open Go Go.Sim
set_option maxRecDepth 100000
theorem Clone_spec (l : List V) (c : Cap) (hl : l.length ≤ 2 ^ 40) (st : St) : RCall Tryz.prog F_slices_Clone_byte_byte [.lst 1 l c] st fun r st' => ∃ c', r = .ret (.lst 1 l c') ∧ Own st st' c' := by
  refine w_slices_Clone_byte_byte ?_
  intro b hb _
  refine brb (fun h => ⟨_, by rw [hb h], Own.nil (.refl st)⟩) fun _ => ?_
  have ho : Own st st .exact := Own.exact (.refl st)
  refine ⟨ho.has (by omega), fun c' st' ha => ⟨c', by rw [List.nil_append], ho.app ha⟩⟩
theorem Equal_spec (a b : List UInt8) (c d : Cap) : Gives Tryz.prog F_bytes_Equal [.lst 1 (By a) c, .lst 1 (By b) d] (.bool (a == b)) := by
  intro st
  refine w_bytes_Equal ?_
  exact ⟨a, strOf_By a, b, strOf_By b, rfl, .refl st⟩
def headL (boot seq : Nat) : List UInt8 := putL boot 4 ++ putL seq 8
@[simp] theorem head_len (boot seq : Nat) : (headL boot seq).length = 12 := by simp [headL]
theorem repl_app {l a b c : List UInt8} (h : l.length = a.length + b.length) : repl (repl l 0 a) (0 + a.length * 1) b = a ++ b := by
  have h1 := repl_repl l 0 a b (by omega)
  rw [Nat.zero_add] at h1
  rw [Nat.mul_one, Nat.zero_add, h1]
  exact repl_all l (a ++ b) (by simp [h])
theorem Head_spec (boot seq : Nat) (hb : boot < 2 ^ 32) (hs : seq < 2 ^ 64) : Gives Tryz.prog F_seal_Head [.int .u32 boot, .int .u64 seq] (.agg (By (headL boot seq))) := by
  intro st
  refine w_seal_Head ?_
  intro st3 h3 st4 h4
  have z12 : List.replicate 12 (V.int .u8 0) = By (List.replicate 12 0) := rfl
  rw [z12] at h3 h4
  have c3 : st4.cells st.next = some (By (List.replicate 12 0)) := by rw [h4]; exact cells_new' (by rw [h3]; exact cells_new _ _)
  have c4 : st4.cells st3.next = some (By (List.replicate 12 0)) := by rw [h4]; exact cells_new _ _
  have l4 : st.le st4 := by rw [h4, h3]; exact ((St.le.refl st).new _).new _
  have hne : st.next < st3.next := by rw [h3]; simp
  rw [wu64 (by omega)]
  refine (Put_spec boot 4 (by omega) st4).mono ?_
  rintro _ st6 ⟨c1, rfl, o1⟩
  refine ⟨_, _, rfl, _, _, rfl, o1.le.getC c4, by simp, fun st10 h10 => ?_⟩
  rw [By_length, putL_len, show min 4 12 = 4 from rfl, List.take_of_length_le (by simp), By_flat, By_repl] at h10
  have c10 := cells_set (cs' := By (repl (List.replicate 12 0) 0 (putL boot 4))) (o1.le.getC c4)
  rw [← h10] at c10
  refine ⟨4, rfl, by omega, ?_⟩
  refine (Put_spec seq 8 (by omega) st10).mono ?_
  rintro _ st13 ⟨c2, rfl, o2⟩
  refine ⟨_, _, rfl, _, _, rfl, o2.le.getC c10, ?_, fun st17 h17 => ?_⟩
  · rw [By_length, By_length, putL_len, length_repl _ _ _ (by simp)]; decide
  rw [By_length, putL_len, if_neg (by decide), show min 8 (12 - 4) = 8 from rfl, List.take_of_length_le (by simp), By_flat, By_repl] at h17
  have e := repl_app (l := List.replicate 12 0) (a := putL boot 4) (b := putL seq 8) (c := []) (by simp)
  rw [putL_len] at e
  rw [e] at h17
  have c17 := cells_set (cs' := By (putL boot 4 ++ putL seq 8)) (o2.le.getC c10)
  rw [← h17] at c17
  have d17 : st17.cells st.next = some (By (List.replicate 12 0)) := by
    rw [h17]; refine cells_set' (o2.le.getC ?_) (by omega)
    rw [h10]; exact cells_set' (o1.le.getC c3) (by omega)
  have l17 : st.le st17 := by rw [h17]; refine (St.le.trans ?_ o2.le).set (by omega) _; rw [h10]; exact (l4.trans o1.le).set (by omega) _
  refine ⟨_, ldvg c17 (by simp), by simp, rfl, _, d17, by simp, fun st20 h20 => ?_⟩
  rw [repl_all' (by simp)] at h20
  exact ⟨_, ldvg (by rw [h20]; exact cells_set d17) (by simp), rfl, by rw [h20]; exact l17.set (Nat.le_refl _) _⟩
def basis : Nat := 14695981039346656037
def sealL (key : List UInt8) (boot seq : Nat) (plain : List UInt8) (size : Nat) : List UInt8 :=
  let h := headL boot seq
  let p := padL plain (size - 22)
  h ++ xorL key h 0 (p ++ putL (sumL basis (h ++ p)) 8)
def sealO (key : List UInt8) (boot seq : Nat) (plain : List UInt8) (size : Nat) : Option (List UInt8) :=
  if 22 ≤ size ∧ size - 22 ≤ 60000 ∧ plain.length + 22 ≤ size then some (sealL key boot seq plain size) else none
theorem Seal_spec (key plain : List UInt8) (boot seq size : Nat) (c : Cap) (hk : key.length = 32) (hb : boot < 2 ^ 32) (hs : seq < 2 ^ 64) (hz : size < 2 ^ 31) (st : St) :
    RCall Tryz.prog F_seal_Seal [.agg (By key), .int .u32 boot, .int .u64 seq, .lst 1 (By plain) c, .int .i64 size] st fun r st' => RetO st r st' (sealO key boot seq plain size) := by
  refine w_seal_Seal ?_
  intro st6 h6
  have k6 : st6.cells st.next = some (By key) := by rw [h6]; exact cells_new _ _
  have l6 : st.le st6 := by rw [h6]; exact (St.le.refl st).new _
  refine (Head_spec boot seq hb hs st6).mono ?_
  rintro _ st8 ⟨rfl, hle8⟩
  refine ⟨_, rfl, fun st10 h10 => ⟨by simp, rfl, List.replicate 12 (V.int .u8 0), by rw [h10]; exact cells_new _ _, by simp, fun st12 h12 => ?_⟩⟩
  rw [repl_all' (by simp)] at h12
  have k8 := hle8.getC k6
  have hk8 := St.lt_of_cells k8
  have k12 : st12.cells st.next = some (By key) := by rw [h12]; exact cells_set' (by rw [h10]; exact cells_new' k8) (by omega)
  have d12 : st12.cells st8.next = some (By (headL boot seq)) := by rw [h12]; exact cells_set (cs := List.replicate 12 (V.int .u8 0)) (by rw [h10]; exact cells_new _ _)
  have l12 : st.le st12 := by rw [h12, h10]; exact ((l6.trans hle8).new _).set (by omega) _
  refine br (fun h => ?_) fun h => ?_
  · rw [show sealO key boot seq plain size = none by unfold sealO; rw [if_neg (by omega)]]; exact ⟨rfl, l12⟩
  refine ⟨_, d12, fun st14 h14 => ?_⟩
  have k14 : st14.cells st.next = some (By key) := by rw [h14]; exact cells_kill k12 (by omega)
  have l14 : st.le st14 := by rw [h14]; exact (l12.kill (by omega)).newT
  refine w_seal_Room ⟨_, rfl, ?_⟩
  rw [w64 (by omega)]
  refine (Pad_spec plain c _ st14).mono ?_
  intro r19 st19 hr
  have hpad : padO plain ((size : Int) - 22) = if size - 22 ≤ 60000 ∧ plain.length + 22 ≤ size then some (padL plain (size - 22)) else none := by
    unfold padO
    by_cases hq : size - 22 ≤ 60000 ∧ plain.length + 22 ≤ size
    · rw [if_pos hq, if_pos (by omega), show ((size : Int) - 22).toNat = size - 22 by omega]
    · rw [if_neg hq, if_neg (by omega)]
  rw [hpad] at hr
  by_cases hq : size - 22 ≤ 60000 ∧ plain.length + 22 ≤ size
  · rw [if_pos hq] at hr
    obtain ⟨c', rfl, ho⟩ := hr
    have hpl : (padL plain (size - 22)).length = size - 20 := by rw [padL_len (by omega)]; omega
    have hso : sealO key boot seq plain size = some (sealL key boot seq plain size) := by unfold sealO; rw [if_pos ⟨by omega, hq⟩]
    rw [hso]
    have hsl : sealL key boot seq plain size = headL boot seq ++ xorL key (headL boot seq) 0 (padL plain (size - 22) ++ putL (sumL basis (headL boot seq ++ padL plain (size - 22))) 8) := rfl
    rw [hsl]
    have hh : (headL boot seq).length = 12 := head_len _ _
    generalize headL boot seq = H at hh
    generalize padL plain (size - 22) = p at hpl ho
    refine ⟨_, _, _, rfl, fun h => (by cases h), fun _ => ?_⟩
    refine ⟨by rw [By_length]; omega, ?_⟩
    rw [By_take, List.take_of_length_le (show H.length ≤ 12 by omega)]
    have hS := Sum_spec [(H, Cap.unk), (p, Cap.unk)] .exact (by simp) (by
      intro q hq
      simp only [List.mem_cons, List.not_mem_nil, or_false] at hq
      rcases hq with rfl | rfl
      · show H.length < _; omega
      · show p.length < _; omega) st19
    simp only [List.map_cons, List.map_nil, List.flatten_cons, List.flatten_nil, List.append_nil] at hS
    refine hS.mono ?_
    rintro _ st23 ⟨rfl, hle23⟩
    refine ⟨_, rfl, ?_⟩
    refine (Put_spec _ 8 (by omega) st23).mono ?_
    rintro _ st26 ⟨c2, rfl, ho2⟩
    have ho26 := ho.step (hle23.trans ho2.le)
    refine ⟨_, _, rfl, ho26.has (by simp; omega), fun c28 st29 ha => ?_⟩
    have ho29 := ho26.app ha
    have k29 : st29.cells st.next = some (By key) := ho29.le.getC k14
    refine ⟨_, ldvg k29 (by rw [By_length]; exact hk), By H, by unfold fldV; rw [if_pos (by simp; omega), By_drop, By_take, List.drop_zero, List.take_of_length_le (by omega)]; rfl, ?_⟩
    rw [← By_append]
    refine (Xor_spec key H _ 0 _ hk hh (by intro h; have := congrArg List.length h; simp at this) (by simp; omega) (by simp; omega) st29).mono ?_
    rintro _ st33 ⟨c3, rfl, ho3⟩
    have l33 : st.le st33 := l14.trans (ho29.le.trans ho3.le)
    have hf : Own st st33 .full := Own.full l33
    refine ⟨_, _, _, rfl, by rw [By_length]; omega, hf.has (by simp; omega), fun c4 st37 ha4 => ⟨c4, ?_, hf.app ha4⟩⟩
    rw [By_append]
    rfl
  · rw [if_neg hq] at hr
    obtain ⟨rfl, hle⟩ := hr
    rw [show sealO key boot seq plain size = none by unfold sealO; rw [if_neg (fun h => hq h.2)]]
    exact ⟨_, _, _, rfl, fun _ => ⟨rfl, l14.trans hle⟩, fun h => (by cases h)⟩
def openL (key b : List UInt8) : Option (List UInt8 × Nat × Nat) :=
  let h := b.take 12
  let x := xorL key h 0 (b.drop 12)
  let p := x.take (x.length - 8)
  if 22 ≤ b.length then
    match unpadO p ((b.length : Int) - 22) with
    | some q => if x.drop (x.length - 8) = putL (sumL basis (h ++ p)) 8 then some (q, getL (h.take 4), getL (h.drop 4)) else none
    | none => none
  else none
def OpenR (st : St) (r : Res) (st' : St) (o : Option (List UInt8 × Nat × Nat)) : Prop :=
  match o with
  | some (q, boot, seq) => ∃ c', r = .ret (.tup [.lst 1 (By q) c', .int .u32 boot, .int .u64 seq, .bool true]) ∧ Own st st' c'
  | none => r = .ret (.tup [.lst 1 [] .nil, .int .u32 0, .int .u64 0, .bool false]) ∧ st.le st'
theorem flat_By_take (l : List UInt8) (n : Nat) : flat ((By l).take n) = By (l.take n) := by rw [By_take, By_flat]
theorem Open_spec (key b : List UInt8) (c : Cap) (hk : key.length = 32) (hb : b.length < 2 ^ 31) (st : St) :
    RCall Tryz.prog F_seal_Open [.agg (By key), .lst 1 (By b) c] st fun r st' => OpenR st r st' (openL key b) := by
  refine w_seal_Open ?_
  rw [By_length]
  intro st3 h3
  have k3 : st3.cells st.next = some (By key) := by rw [h3]; exact cells_new _ _
  have l3 : st.le st3 := by rw [h3]; exact (St.le.refl st).new _
  have hk3 := St.lt_of_cells k3
  refine br (fun h => ?_) fun h => ?_
  · rw [show openL key b = none by unfold openL; simp only; rw [if_neg (by omega)]]; exact ⟨rfl, l3⟩
  have hb22 : 22 ≤ b.length := by omega
  have hop : openL key b = (match unpadO ((xorL key (b.take 12) 0 (b.drop 12)).take ((xorL key (b.take 12) 0 (b.drop 12)).length - 8)) ((b.length : Int) - 22) with
    | some q => if (xorL key (b.take 12) 0 (b.drop 12)).drop ((xorL key (b.take 12) 0 (b.drop 12)).length - 8) = putL (sumL basis (b.take 12 ++ (xorL key (b.take 12) 0 (b.drop 12)).take ((xorL key (b.take 12) 0 (b.drop 12)).length - 8))) 8 then some (q, getL ((b.take 12).take 4), getL ((b.take 12).drop 4)) else none
    | none => none) := by unfold openL; simp only; rw [if_pos hb22]
  rw [hop]
  have hH : (b.take 12).length = 12 := by simp; omega
  have hxl : (xorL key (b.take 12) 0 (b.drop 12)).length = b.length - 12 := by simp
  have hf12 : fldV (By (b.take 12)) 0 12 true = some (.agg (By (b.take 12))) := by
    unfold fldV; rw [if_pos (by simp; omega), By_drop, By_take, List.drop_zero, List.take_of_length_le (by omega)]; rfl
  have hfl : fldV (flat (((By b).take 12).take 12)) 0 12 true = some (.agg (By (b.take 12))) := by
    rw [By_take, flat_By_take, List.take_of_length_le (by omega)]; exact hf12
  refine ⟨12, rfl, by omega, by simp; omega, By (b.take 12), hfl, fun st6 h6 => ⟨by rw [By_length]; exact hH, rfl, List.replicate 12 (V.int .u8 0), by rw [h6]; exact cells_new _ _, by simp, fun st8 h8 => ?_⟩⟩
  rw [repl_all' (by rw [By_length, hH]; rfl)] at h8
  have k8 : st8.cells st.next = some (By key) := by rw [h8]; exact cells_set' (by rw [h6]; exact cells_new' k3) (by omega)
  have d8 : st8.cells st3.next = some (By (b.take 12)) := by rw [h8]; exact cells_set (cs := List.replicate 12 (V.int .u8 0)) (by rw [h6]; exact cells_new _ _)
  have l8 : st.le st8 := by rw [h8, h6]; exact (l3.new _).set (by omega) _
  refine ⟨_, d8, fun st10 h10 => ?_⟩
  have k10 : st10.cells st.next = some (By key) := by rw [h10]; exact cells_kill k8 (by omega)
  have l10 : st.le st10 := by rw [h10]; exact (l8.kill (by omega)).newT
  refine ⟨_, ldvg k10 (by rw [By_length]; exact hk), _, hf12, 12, rfl, by omega, ?_⟩
  rw [By_drop]
  refine (Xor_spec key (b.take 12) (b.drop 12) 0 _ hk hH (by intro h; have := congrArg List.length h; simp at this; omega) (by simp; omega) (by simp; omega) st10).mono ?_
  rintro _ st15 ⟨c1, rfl, ho⟩
  generalize hX : xorL key (b.take 12) 0 (b.drop 12) = x at hxl
  generalize hHe : b.take 12 = H at hH hf12
  refine ⟨_, _, _, rfl, x.length - 8, by rw [By_length, w64 (by omega)]; omega, by rw [By_length]; omega, x.length - 8, by rw [By_length, w64 (by omega)]; omega, by rw [By_length]; omega, ?_⟩
  refine w_seal_Room ⟨_, rfl, ?_⟩
  rw [w64 (by omega), By_take, By_drop]
  refine (Unpad_spec (x.take (x.length - 8)) _ ((b.length : Int) - 22) (by simp; omega) st15).mono ?_
  intro r23 st24 hr
  cases hu : unpadO (x.take (x.length - 8)) ((b.length : Int) - 22) with
  | none =>
    rw [hu] at hr
    obtain ⟨rfl, hle⟩ := hr
    refine ⟨_, _, _, rfl, fun K hK => ⟨fun h => (by cases h), fun _ => hK _ _ ⟨fun _ => ⟨rfl, l10.trans (ho.le.trans hle)⟩, fun h => (by cases h)⟩⟩⟩
  | some q =>
    rw [hu] at hr
    obtain ⟨c2, rfl, ho2⟩ := hr
    simp only
    refine ⟨_, _, _, rfl, fun K hK => ⟨fun _ => ⟨by rw [By_length]; omega, ?_⟩, fun h => (by cases h)⟩⟩
    rw [By_take, List.take_of_length_le (show H.length ≤ 12 by omega)]
    have hS := Sum_spec [(H, Cap.unk), (x.take (x.length - 8), Cap.unk)] .exact (by simp) (by
      intro q hq
      simp only [List.mem_cons, List.not_mem_nil, or_false] at hq
      rcases hq with rfl | rfl
      · show H.length < _; omega
      · show (x.take _).length < _; simp; omega) st24
    simp only [List.map_cons, List.map_nil, List.flatten_cons, List.flatten_nil, List.append_nil] at hS
    refine hS.mono ?_
    rintro _ st28 ⟨rfl, hle28⟩
    refine ⟨_, rfl, ?_⟩
    refine (Put_spec _ 8 (by omega) st28).mono ?_
    rintro _ st31 ⟨c3, rfl, ho3⟩
    refine ⟨_, _, rfl, ?_⟩
    refine (Equal_spec _ _ _ _ st31).mono ?_
    rintro _ st34 ⟨rfl, hle34⟩
    have hsl : st24.le st34 := hle28.trans (ho3.le.trans hle34)
    have ho34 : Own st st34 c2 := Own.trans (l10.trans ho.le) (ho2.step hsl)
    refine ⟨_, rfl, hK _ _ ⟨fun hne => ?_, fun heq => ?_⟩⟩
    · have hne : ¬ x.drop (x.length - 8) = putL (sumL basis (H ++ x.take (x.length - 8))) 8 := by
        intro he; rw [show sumL basis = sumL 14695981039346656037 from rfl] at he; rw [he] at hne; simp at hne
      rw [if_neg hne]; exact ⟨rfl, ho34.le⟩
    · have heq : x.drop (x.length - 8) = putL (sumL basis (H ++ x.take (x.length - 8))) 8 := by
        rw [Bool.not_eq_false'] at heq; exact eq_of_beq heq
      rw [if_pos heq]
      refine ⟨by rw [By_length]; omega, 4, rfl, by omega, by rw [By_length]; omega, 4, rfl, by omega, ?_⟩
      rw [By_take, By_take, List.take_of_length_le (show H.length ≤ 12 by omega), By_drop]
      refine (Get_spec (H.take 4) _ (by simp; omega) st34).mono ?_
      rintro _ st42 ⟨rfl, hle42⟩
      refine ⟨_, rfl, ?_⟩
      refine (Get_spec (H.drop 4) _ (by simp; omega) st42).mono ?_
      rintro _ st45 ⟨rfl, hle45⟩
      have hg : getL (H.take 4) < 2 ^ 32 := by
        have := getL_lt (H.take 4)
        rw [List.length_take, Nat.min_eq_left (by omega)] at this
        exact this
      refine ⟨_, rfl, c2, ?_, ho34.step (hle42.trans hle45)⟩
      rw [wu32 (by omega)]
theorem RSum_spec (b : List UInt8) (c : Cap) (hb : b.length < 2 ^ 62) : Gives Tryz.prog F_ref1_Sum [.lst 1 (By b) c] (.int .u64 (sumL basis b)) := by
  intro st
  refine w_ref1_Sum ?_
  rw [By_length]
  refine ⟨fun m out i st' => ∃ j : Nat, i = j ∧ j ≤ b.length ∧ m = b.length - j ∧ out = (sumL basis (b.take j) : Int) ∧ st' = st, ⟨b.length, 0, rfl, by omega, by omega, by simp [sumL, basis], rfl⟩, ?_⟩
  rintro m _ _ st2 ⟨j, rfl, hj, rfl, rfl, rfl⟩
  refine br (fun hjl => ?_) fun hjg => ?_
  · have hj' : j < b.length := by omega
    refine ⟨j, rfl, _, By_get hj', b.length - (j + 1), by omega, j + 1, ?_, by omega, rfl, ?_, rfl⟩
    · rw [w64 (by omega)]; omega
    · rw [sum_step _ _ (sumL_lt _ (by decide)), List.take_succ_eq_append_getElem hj', sumL_append, sumL_one]
  · rw [List.take_of_length_le (by omega)]
    exact ⟨rfl, .refl _⟩
theorem RUnpad_spec (b : List UInt8) (c : Cap) (most : Int) (hb : b.length < 2 ^ 40) (st : St) : RCall Tryz.prog F_ref1_Unpad [.lst 1 (By b) c, .int .i64 most] st fun r st' => RetO st r st' (unpadO b most) := by
  refine w_ref1_Unpad ?_
  rw [By_length]
  intro K hK
  have bad : unpadO b most = none → K true st := fun hn => hK _ _ fun K7 h7 => ⟨fun h => (by cases h), fun _ => h7 _ _ ⟨fun _ => by rw [hn]; exact ⟨rfl, .refl _⟩, fun h => (by cases h)⟩⟩
  refine br' (fun h0 => ?_) fun h0 => bad (by unfold unpadO; rw [if_neg (by omega)])
  refine hK _ _ fun K7 h7 => ⟨fun h => ?_, fun h => ?_⟩
  · have h1 := of_decide_eq_false h
    refine h7 _ _ ⟨fun h2 => ?_, fun h2 => ?_⟩
    · rw [w64 (by omega)] at h2
      have h2 : (b.length : Int) ≠ most + 2 := by simpa using h2
      rw [show unpadO b most = none by unfold unpadO unpadL; rw [if_pos (by omega)]; simp only; rw [if_neg (by omega)]]
      exact ⟨rfl, .refl _⟩
    · rw [w64 (by omega)] at h2
      have h2 : (b.length : Int) = most + 2 := by simpa using h2
      refine ⟨2, rfl, by omega, ?_⟩
      rw [By_take]
      refine (RGet_spec (b.take 2) _ (by simp; omega) st).mono ?_
      rintro _ st1 ⟨rfl, hle⟩
      refine ⟨_, rfl, ?_⟩
      have hG : getL (b.take 2) < 65536 := by
        have := getL_lt (b.take 2)
        rw [List.length_take, Nat.min_eq_left (by omega)] at this
        exact this
      generalize hg : getL (b.take 2) = G at hG
      have hun : unpadO b most = if (G : Int) ≤ most ∧ (b.drop (2 + G)).all (· == 0) = true then some ((b.take (2 + G)).drop 2) else none := by
        unfold unpadO unpadL
        rw [if_pos (by omega)]
        simp only [hg]
        by_cases hq : (G : Int) ≤ most ∧ (b.drop (2 + G)).all (· == 0) = true
        · rw [if_pos hq, if_pos ⟨by omega, by omega, hq.2⟩]
        · rw [if_neg hq, if_neg (fun h => hq ⟨by omega, h.2.2⟩)]
      rw [w64 (n := (G : Int)) (by omega)]
      refine br (fun h3 => ?_) fun h3 => ?_
      · rw [hun, if_neg (by omega)]; exact ⟨rfl, hle⟩
      refine ⟨fun m i st' => ∃ k : Nat, i = k ∧ 2 + G ≤ k ∧ k ≤ b.length ∧ m = b.length - k ∧ ((b.take k).drop (2 + G)).all (· == 0) = true ∧ st' = st1, ⟨b.length - (2 + G), 2 + G, by rw [w64 (by omega)]; omega, by omega, by omega, rfl, by
        rw [List.drop_of_length_le (by simp; omega)]; rfl, rfl⟩, ?_⟩
      rintro _ _ st2 ⟨k, rfl, hk1, hk2, rfl, hz, rfl⟩
      refine br (fun hlt => ?_) fun hge => ?_
      · have hlt : k < b.length := by omega
        refine ⟨k, rfl, _, By_get hlt, brne (fun hne => ?_) fun he => ⟨b.length - (k + 1), by omega, k + 1, by rw [w64 (by omega)]; omega, by omega, by omega, rfl, ?_, rfl⟩⟩
        · rw [hun, if_neg]
          · exact ⟨rfl, hle⟩
          · rintro ⟨_, ha⟩
            apply hne
            have hm : b[k] ∈ b.drop (2 + G) := by
              rw [List.mem_drop_iff_getElem]
              exact ⟨k - (2 + G), by omega, by congr 1; omega⟩
            have := List.all_eq_true.1 ha _ hm
            rw [beq_iff_eq] at this
            rw [this]; rfl
        · rw [List.take_succ_eq_append_getElem hlt, List.drop_append_of_le_length (by simp; omega), List.all_append, hz]
          have : b[k] = 0 := UInt8.toNat_inj.1 (by simpa using he)
          simp [this]
      · rw [List.take_of_length_le (by omega)] at hz
        rw [hun, if_pos ⟨by omega, hz⟩]
        refine ⟨2, 2 + G, rfl, by rw [w64 (by omega)]; omega, by omega, by omega, ?_⟩
        have ho : Own st st2 .exact := Own.exact hle
        rw [By_take, By_drop]
        refine ⟨ho.has (by simp; omega), fun c' st' ha => ⟨c', ?_, ho.app ha⟩⟩
        rw [List.nil_append]
  · have h1 := of_decide_eq_true h
    exact h7 _ _ ⟨fun _ => by rw [show unpadO b most = none by unfold unpadO; rw [if_neg (by omega)]]; exact ⟨rfl, .refl _⟩, fun h => (by cases h)⟩
theorem put_getL (l : List UInt8) : putL (getL l) l.length = l := by
  induction l with
  | nil => rfl
  | cons x r ih =>
    have hx := x.toNat_lt
    simp only [List.length_cons, getL, putL]
    rw [show (x.toNat + 256 * getL r) / 256 = getL r by omega, ih]
    congr 1
    apply UInt8.toNat_inj.1
    simp
theorem get_putL (n k : Nat) (h : n < 256 ^ k) : getL (putL n k) = n := by
  induction k generalizing n with
  | zero => simp at h; subst h; rfl
  | succ k ih =>
    simp only [putL, getL]
    rw [ih (n / 256) (by rw [Nat.pow_succ] at h; exact Nat.div_lt_of_lt_mul (by omega))]
    simp; omega
theorem ROpen_spec (key b : List UInt8) (c : Cap) (hk : key.length = 32) (hb : b.length < 2 ^ 31) (st : St) :
    RCall Tryz.prog F_ref1_Open [.agg (By key), .lst 1 (By b) c] st fun r st' => OpenR st r st' (openL key b) := by
  refine w_ref1_Open ?_
  rw [By_length]
  intro st3 h3
  have k3 : st3.cells st.next = some (By key) := by rw [h3]; exact cells_new _ _
  have l3 : st.le st3 := by rw [h3]; exact (St.le.refl st).new _
  have hk3 := St.lt_of_cells k3
  refine br (fun h => ?_) fun h => ?_
  · rw [show openL key b = none by unfold openL; simp only; rw [if_neg (by omega)]]; exact ⟨rfl, l3⟩
  have hb22 : 22 ≤ b.length := by omega
  have hop : openL key b = (match unpadO ((xorL key (b.take 12) 0 (b.drop 12)).take ((xorL key (b.take 12) 0 (b.drop 12)).length - 8)) ((b.length : Int) - 22) with
    | some q => if (xorL key (b.take 12) 0 (b.drop 12)).drop ((xorL key (b.take 12) 0 (b.drop 12)).length - 8) = putL (sumL basis (b.take 12 ++ (xorL key (b.take 12) 0 (b.drop 12)).take ((xorL key (b.take 12) 0 (b.drop 12)).length - 8))) 8 then some (q, getL ((b.take 12).take 4), getL ((b.take 12).drop 4)) else none
    | none => none) := by unfold openL; simp only; rw [if_pos hb22]
  rw [hop]
  have hH : (b.take 12).length = 12 := by simp; omega
  have hxl : (xorL key (b.take 12) 0 (b.drop 12)).length = b.length - 12 := by simp
  have hf12 : fldV (By (b.take 12)) 0 12 true = some (.agg (By (b.take 12))) := by
    unfold fldV; rw [if_pos (by simp; omega), By_drop, By_take, List.drop_zero, List.take_of_length_le (by omega)]; rfl
  intro st4 h4
  refine ⟨12, rfl, by omega, _, List.replicate 12 (V.int .u8 0), rfl, by rw [h4]; exact cells_new _ _, by simp; omega, fun st8 h8 => ?_⟩
  rw [By_take, By_length, hH, show min 12 12 = 12 from rfl, flat_By_take, List.take_of_length_le (show (b.take 12).length ≤ 12 by omega), repl_all' (by rw [By_length, hH]; rfl)] at h8
  have k8 : st8.cells st.next = some (By key) := by rw [h8]; exact cells_set' (by rw [h4]; exact cells_new' k3) (by omega)
  have d8 : st8.cells st3.next = some (By (b.take 12)) := by rw [h8]; exact cells_set (cs := List.replicate 12 (V.int .u8 0)) (by rw [h4]; exact cells_new _ _)
  have l8 : st.le st8 := by rw [h8, h4]; exact (l3.new _).set (by omega) _
  refine ⟨_, d8, fun st10 h10 => ?_⟩
  have k10 : st10.cells st.next = some (By key) := by rw [h10]; exact cells_kill k8 (by omega)
  have l10 : st.le st10 := by rw [h10]; exact (l8.kill (by omega)).newT
  refine ⟨_, ldvg k10 (by rw [By_length]; exact hk), _, hf12, 12, rfl, by omega, ?_⟩
  rw [By_drop]
  refine (RXor_spec key (b.take 12) (b.drop 12) 0 _ hk hH (by intro h; have := congrArg List.length h; simp at this; omega) (by simp; omega) (by simp; omega) st10).mono ?_
  rintro _ st15 ⟨c1, rfl, ho⟩
  generalize hX : xorL key (b.take 12) 0 (b.drop 12) = x at hxl
  generalize hHe : b.take 12 = H at hH hf12
  refine ⟨_, _, _, rfl, fun h => (by cases h), fun _ => ⟨x.length - 8, by rw [By_length, w64 (by omega)]; omega, by rw [By_length]; omega, ?_⟩⟩
  rw [w64 (n := (b.length : Int) - 22) (by omega), By_take]
  refine (RUnpad_spec (x.take (x.length - 8)) _ ((b.length : Int) - 22) (by simp; omega) st15).mono ?_
  intro r23 st24 hr
  cases hu : unpadO (x.take (x.length - 8)) ((b.length : Int) - 22) with
  | none =>
    rw [hu] at hr
    obtain ⟨rfl, hle⟩ := hr
    refine ⟨_, _, _, rfl, fun K hK => ⟨fun h => (by cases h), fun _ => hK _ _ ⟨fun _ => ⟨rfl, l10.trans (ho.le.trans hle)⟩, fun h => (by cases h)⟩⟩⟩
  | some q =>
    rw [hu] at hr
    obtain ⟨c2, rfl, ho2⟩ := hr
    simp only
    refine ⟨_, _, _, rfl, fun K hK => ⟨fun _ => ⟨x.length - 8, by rw [By_length, w64 (by omega)]; omega, by rw [By_length]; omega, by rw [By_length]; omega, ?_⟩, fun h => (by cases h)⟩⟩
    rw [By_take, List.take_of_length_le (show H.length ≤ 12 by omega), By_drop]
    have hd8 : (x.drop (x.length - 8)).length = 8 := by simp; omega
    refine (RGet_spec (x.drop (x.length - 8)) _ (by omega) st24).mono ?_
    rintro _ st25 ⟨rfl, hle25⟩
    have hoe : Own st25 st25 .exact := Own.exact (.refl _)
    refine ⟨_, rfl, hoe.has (by simp; omega), fun c3 st28 ha => ?_⟩
    have ho28 := hoe.app ha
    refine ⟨ho28.has (by simp; omega), fun c4 st30 hb => ?_⟩
    have ho30 := ho28.app hb
    rw [List.nil_append, ← By_append]
    refine (RSum_spec _ _ (by simp; omega) st30).mono ?_
    rintro _ st34 ⟨rfl, hle34⟩
    have hsl : st24.le st34 := hle25.trans (ho30.le.trans hle34)
    have ho34 : Own st st34 c2 := Own.trans (l10.trans ho.le) (ho2.step hsl)
    have hiff : (getL (x.drop (x.length - 8)) = sumL basis (H ++ x.take (x.length - 8))) ↔ x.drop (x.length - 8) = putL (sumL basis (H ++ x.take (x.length - 8))) 8 := by
      constructor
      · intro h; rw [← h]; have := put_getL (x.drop (x.length - 8)); rw [hd8] at this; exact this.symm
      · intro h; rw [h, get_putL _ 8 (sumL_lt _ (by decide))]
    refine ⟨_, rfl, hK _ _ ⟨fun hne => ?_, fun heq => ?_⟩⟩
    · rw [if_neg]
      · exact ⟨rfl, ho34.le⟩
      · intro h
        have := hiff.2 h
        rw [this] at hne
        simp at hne
    · have heq : getL (x.drop (x.length - 8)) = sumL basis (H ++ x.take (x.length - 8)) := by
        simp only [bne_eq_false_iff_eq] at heq
        exact Int.ofNat.inj heq
      rw [if_pos (hiff.1 heq)]
      refine ⟨by rw [By_length]; omega, 4, rfl, by omega, by rw [By_length]; omega, 4, rfl, by omega, ?_⟩
      rw [By_take, By_take, List.take_of_length_le (show H.length ≤ 12 by omega), By_drop]
      refine (RGet_spec (H.take 4) _ (by simp; omega) st34).mono ?_
      rintro _ st42 ⟨rfl, hle42⟩
      refine ⟨_, rfl, ?_⟩
      refine (RGet_spec (H.drop 4) _ (by simp; omega) st42).mono ?_
      rintro _ st45 ⟨rfl, hle45⟩
      have hg : getL (H.take 4) < 2 ^ 32 := by
        have := getL_lt (H.take 4)
        rw [List.length_take, Nat.min_eq_left (by omega)] at this
        exact this
      refine ⟨_, rfl, c2, ?_, ho34.step (hle42.trans hle45)⟩
      rw [wu32 (by omega)]
end Go.Proofs.YtffenelcgjdbiaaGreatDoor
namespace Go.Proofs.YtffenelcgjdbiaaGreatDoor
open Go Go.Sim
set_option maxRecDepth 100000
theorem and_i64 (a b : Nat) (ha : a < 2 ^ 63) (hb : b < 2 ^ 63) : iand .i64 (a : Int) (b : Int) = ((a &&& b : Nat) : Int) := by
  have h1 : a &&& b < 2 ^ 63 := Nat.and_lt_two_pow _ hb
  unfold iand
  rw [show IntKind.i64.bits = 64 from rfl, BitVec.toNat_and, BitVec.toNat_ofInt, BitVec.toNat_ofInt]
  rw [show ((a : Int) % ((2 ^ 64 : Nat) : Int)).toNat = a by omega, show ((b : Int) % ((2 ^ 64 : Nat) : Int)).toNat = b by omega]
  exact w64 (by omega)
theorem xor_i64 (a b : Nat) (ha : a < 2 ^ 63) (hb : b < 2 ^ 63) : ixor .i64 (a : Int) (b : Int) = ((a ^^^ b : Nat) : Int) := by
  have h1 : a ^^^ b < 2 ^ 63 := Nat.xor_lt_two_pow ha hb
  unfold ixor
  rw [show IntKind.i64.bits = 64 from rfl, BitVec.toNat_xor, BitVec.toNat_ofInt, BitVec.toNat_ofInt]
  rw [show ((a : Int) % ((2 ^ 64 : Nat) : Int)).toNat = a by omega, show ((b : Int) % ((2 ^ 64 : Nat) : Int)).toNat = b by omega]
  exact w64 (by omega)
theorem pow16 {d : Nat} (h : d ≤ 16) : 1 ≤ 2 ^ d ∧ 2 ^ d ≤ 65536 := ⟨Nat.one_le_two_pow, Nat.pow_le_pow_right (n := 2) (by omega) h⟩
theorem Leaves_spec {d : Nat} (hd : d ≤ 16) : Gives Tryz.prog F_draw_Leaves [.int .i64 (2 ^ d : Nat)] (.bool true) := by
  intro st
  obtain ⟨h1, h2⟩ := pow16 hd
  refine w_draw_Leaves ?_
  intro K hK
  refine br (fun _ => ?_) fun h => by omega
  refine hK _ _ fun K6 h6 => ⟨fun _ => ?_, fun h => ?_⟩
  · rw [w64 (by omega), show ((2 ^ d : Nat) : Int) - 1 = ((2 ^ d - 1 : Nat) : Int) by omega, and_i64 _ _ (by omega) (by omega), Nat.and_two_pow_sub_one_eq_mod, Nat.mod_self]
    exact h6 _ _ ⟨rfl, .refl _⟩
  · have := of_decide_eq_false h; omega
theorem RLeaves_spec {d : Nat} (hd : d ≤ 16) : Gives Tryz.prog F_ref1_Leaves [.int .i64 (2 ^ d : Nat)] (.bool true) := by
  intro st
  obtain ⟨h1, h2⟩ := pow16 hd
  refine w_ref1_Leaves ?_
  intro K hK
  refine br (fun _ => ?_) fun h => by omega
  refine hK _ _ fun K6 h6 => ⟨fun _ => ?_, fun h => ?_⟩
  · rw [w64 (by omega), show ((2 ^ d : Nat) : Int) - 1 = ((2 ^ d - 1 : Nat) : Int) by omega, and_i64 _ _ (by omega) (by omega), Nat.and_two_pow_sub_one_eq_mod, Nat.mod_self]
    exact h6 _ _ ⟨rfl, .refl _⟩
  · have := of_decide_eq_false h; omega
def tzI (d : Nat) : Nat := tab64.findIdx (· == d)
theorem tz_all : ∀ d : Fin 17, Int.fdiv (IntKind.u64.wrap ((iand .u64 ((2 ^ d.val : Nat) : Int) (IntKind.u64.wrap (0 - ((2 ^ d.val : Nat) : Int)))) * 285870213051353865)) (2 ^ 58) = (tzI d.val : Int) ∧ tzI d.val < 64 ∧ tab64[tzI d.val]? = some d.val := by decide +kernel
theorem tab_get {k n : Nat} (h : tab64[k]? = some n) : fldV (tabV.drop (k * 1)) 0 1 false = some (.int .u8 (n : Int)) := by
  have hlt := (List.getElem?_eq_some_iff.1 h).1
  have hv : tabV[k]? = some (.int .u8 (n : Int)) := by rw [tabV, List.getElem?_map, h]; rfl
  unfold fldV aggOr
  have hl : tabV.length = tab64.length := by rw [tabV, List.length_map]
  rw [Nat.mul_one, if_pos (by rw [List.length_drop, hl]; omega)]
  simp [List.getElem?_take, hv]
theorem TZ_spec {d : Nat} (hd : d ≤ 16) : Gives Tryz.prog F_math_bits_TrailingZeros [.int .u64 (2 ^ d : Nat)] (.int .i64 d) := by
  intro st
  obtain ⟨h1, h2⟩ := pow16 hd
  refine w_math_bits_TrailingZeros ?_
  refine w_math_bits_TrailingZeros64 ?_
  obtain ⟨e1, e2, e3⟩ := tz_all ⟨d, by omega⟩
  refine breq (fun h => by omega) fun _ => ⟨tzI d, e1, e2, _, tab_get e3, _, rfl, ?_, .refl _⟩
  rw [w64 (by show _ ∧ _; constructor <;> (show _ ≤ _) <;> simp <;> omega)]
theorem Depth_spec {d : Nat} (hd : d ≤ 16) : Gives Tryz.prog F_path_Depth [.int .i64 (2 ^ d : Nat)] (.int .i64 d) := by
  intro st
  obtain ⟨h1, h2⟩ := pow16 hd
  refine w_path_Depth ?_
  refine (Leaves_spec hd st).mono ?_
  rintro _ st1 ⟨rfl, l1⟩
  refine ⟨_, rfl, fun h => (by cases h), fun _ => ?_⟩
  rw [wu64 (by omega)]
  refine (TZ_spec hd st1).mono ?_
  rintro _ st2 ⟨rfl, l2⟩
  exact ⟨_, rfl, rfl, l1.trans l2⟩
theorem Buckets_spec {d : Nat} (hd : d ≤ 16) : Gives Tryz.prog F_path_Buckets [.int .i64 (2 ^ d : Nat)] (.int .i64 (2 * 2 ^ d - 1 : Nat)) := by
  intro st
  obtain ⟨h1, h2⟩ := pow16 hd
  refine w_path_Buckets ?_
  refine (Leaves_spec hd st).mono ?_
  rintro _ st1 ⟨rfl, l1⟩
  refine ⟨_, rfl, fun h => (by cases h), fun _ => ⟨?_, l1⟩⟩
  rw [w64 (n := 2 * ((2 ^ d : Nat) : Int)) (by omega), w64 (by omega)]
  congr 2
  omega
theorem RBuckets_spec {d : Nat} (hd : d ≤ 16) : Gives Tryz.prog F_ref6_Buckets [.int .i64 (2 ^ d : Nat)] (.int .i64 (2 * 2 ^ d - 1 : Nat)) := by
  intro st
  obtain ⟨h1, h2⟩ := pow16 hd
  refine w_ref6_Buckets ?_
  refine (RLeaves_spec hd st).mono ?_
  rintro _ st1 ⟨rfl, l1⟩
  refine ⟨_, rfl, fun h => (by cases h), fun _ => ⟨?_, l1⟩⟩
  rw [w64 (n := 2 * ((2 ^ d : Nat) : Int)) (by omega), w64 (by omega)]
  congr 2
  omega
theorem has_spec {d : Nat} (hd : d ≤ 16) (leaf : Int) : Gives Tryz.prog F_path_has [.int .i64 (2 ^ d : Nat), .int .i64 leaf] (.bool (decide (0 ≤ leaf ∧ leaf < (2 ^ d : Nat)))) := by
  intro st
  refine w_path_has ?_
  refine (Leaves_spec hd st).mono ?_
  rintro _ st1 ⟨rfl, l1⟩
  refine ⟨_, rfl, fun K hK => ⟨fun _ => hK _ _ fun K10 h10 => ?_, fun h => (by cases h)⟩⟩
  refine br (fun h => h10 _ _ ⟨?_, l1⟩) fun h => h10 _ _ ⟨?_, l1⟩
  · congr 2; simp [h]
  · congr 2; simp; omega
def atL (d leaf level : Nat) : Nat := 2 ^ level - 1 + leaf / 2 ^ (d - level)
theorem atL_lt {d leaf level : Nat} (hl : leaf < 2 ^ d) (hv : level ≤ d) : atL d leaf level < 2 * 2 ^ d - 1 := by
  have h1 : leaf / 2 ^ (d - level) < 2 ^ level := by
    rw [Nat.div_lt_iff_lt_mul (Nat.pow_pos (by decide)), ← Nat.pow_add, show level + (d - level) = d by omega]; exact hl
  have h2 : 2 ^ level ≤ 2 ^ d := Nat.pow_le_pow_right (by decide) hv
  have h3 : 1 ≤ 2 ^ level := Nat.one_le_two_pow
  unfold atL; omega
theorem At_spec {d leaf : Nat} (hd : d ≤ 16) (hl : leaf < 2 ^ d) (level : Nat) (hv : level ≤ 64) :
    Gives Tryz.prog F_path_At [.int .i64 (2 ^ d : Nat), .int .i64 leaf, .int .i64 level] (.tup [.int .i64 (if level ≤ d then atL d leaf level else 0 : Nat), .bool (decide (level ≤ d))]) := by
  intro st
  obtain ⟨h1, h2⟩ := pow16 hd
  refine w_path_At ?_
  refine (Depth_spec hd st).mono ?_
  rintro _ st1 ⟨rfl, l1⟩
  refine ⟨_, rfl, ?_⟩
  refine (has_spec hd leaf st1).mono ?_
  rintro _ st2 ⟨rfl, l2⟩
  have hh : decide (0 ≤ (leaf : Int) ∧ (leaf : Int) < (2 ^ d : Nat)) = true := by simp; exact_mod_cast hl
  rw [hh]
  refine ⟨_, rfl, fun K hK => ⟨fun _ => ?_, fun h => (by cases h)⟩⟩
  have e0 : decide ((level : Int) < 0) = false := by simp
  rw [e0]
  refine hK _ _ fun K14 h14 => ⟨fun _ => h14 _ _ ⟨fun h => ?_, fun h => ?_⟩, fun h => (by cases h)⟩
  · have h := of_decide_eq_true h
    have : ¬ level ≤ d := by omega
    rw [if_neg this, decide_eq_false this]
    exact ⟨rfl, l1.trans l2⟩
  · have h := of_decide_eq_false h
    have hle : level ≤ d := by omega
    have hb := atL_lt hl hle
    refine ⟨by omega, by rw [w64 (by omega)]; omega, ?_, l1.trans l2⟩
    have hp := pow16 (show level ≤ 16 by omega)
    rw [if_pos hle, decide_eq_true hle, Int.toNat_natCast, Nat.min_eq_left (by omega), w64 (n := (d : Int) - level) (by omega), show ((d : Int) - level).toNat = d - level by omega, Nat.min_eq_left (by omega), fdiv_pow]
    have e1 : (1 : Int) * 2 ^ level = ((2 ^ level : Nat) : Int) := by simp
    have hq : leaf / 2 ^ (d - level) ≤ leaf := Nat.div_le_self _ _
    have hat : atL d leaf level = 2 ^ level - 1 + leaf / 2 ^ (d - level) := rfl
    generalize leaf / 2 ^ (d - level) = q at hq hat ⊢
    rw [e1, w64 (n := ((2 ^ level : Nat) : Int)) (by omega), w64 (n := ((2 ^ level : Nat) : Int) - 1) (by omega), w64 (by omega)]
    congr 4
    omega
def Is (l : List Nat) : List V := l.map fun (n : Nat) => V.int .i64 (n : Int)
@[simp] theorem Is_length (l : List Nat) : (Is l).length = l.length := by simp [Is]
theorem Is_append (l m : List Nat) : Is (l ++ m) = Is l ++ Is m := by simp [Is]
theorem Is_get {l : List Nat} {k : Nat} (h : k < l.length) : (Is l)[k]? = some (.int .i64 (l[k] : Int)) := by simp [Is, h]
def onL (d leaf : Nat) : List Nat := (List.range (d + 1)).map fun l => atL d leaf l
@[simp] theorem onL_len (d leaf : Nat) : (onL d leaf).length = d + 1 := by simp [onL]
theorem range_step (f : Nat → Nat) (k : Nat) : (List.range (k + 1)).map f = (List.range k).map f ++ [f k] := by rw [List.range_succ]; simp
theorem On_spec {d leaf : Nat} (hd : d ≤ 16) (hl : leaf < 2 ^ d) : Makes Tryz.prog F_path_On [.int .i64 (2 ^ d : Nat), .int .i64 leaf] 1 (Is (onL d leaf)) := by
  intro st
  refine w_path_On ?_
  refine ⟨fun n out c level st' => ∃ k : Nat, level = k ∧ k ≤ d + 1 ∧ n = d + 1 - k ∧ out = Is ((List.range k).map fun l => atL d leaf l) ∧ Own st st' c, ⟨d + 1, 0, rfl, by omega, rfl, rfl, Own.nil (.refl st)⟩, ?_⟩
  rintro _ _ c _ st1 ⟨k, rfl, hk, rfl, rfl, ho⟩
  refine (At_spec hd hl k (by omega) st1).mono ?_
  rintro _ st2 ⟨rfl, l2⟩
  have ho2 := ho.step l2
  refine ⟨_, _, rfl, fun h => ?_, fun h => ?_⟩
  · have : k = d + 1 := by
      have : ¬ k ≤ d := by simpa using h
      omega
    subst this
    exact ⟨c, rfl, ho2⟩
  · have hkd : k ≤ d := by simpa using h
    rw [if_pos hkd]
    refine ⟨ho2.has (by simp; omega), fun c' st3 ha => ⟨d + 1 - (k + 1), by omega, k + 1, by rw [w64 (by omega)]; omega, by omega, rfl, ?_, ho2.app ha⟩⟩
    rw [range_step, Is_append]; rfl
theorem RDepth_spec {d : Nat} (hd : d ≤ 16) : Gives Tryz.prog F_ref6_Depth [.int .i64 (2 ^ d : Nat)] (.int .i64 d) := by
  intro st
  refine w_ref6_Depth ?_
  refine ⟨fun m l n st' => ∃ k : Nat, n = k ∧ k ≤ d ∧ m = d - k ∧ l = ((2 ^ (d - k) : Nat) : Int) ∧ st.le st', ⟨d, 0, rfl, by omega, rfl, rfl, .refl st⟩, ?_⟩
  rintro _ _ _ st1 ⟨k, rfl, hk, rfl, rfl, l1⟩
  obtain ⟨h1, h2⟩ := pow16 (show d - k ≤ 16 by omega)
  refine (RLeaves_spec (d := d - k) (by omega) st1).mono ?_
  rintro _ st2 ⟨rfl, l2⟩
  refine ⟨_, rfl, fun K hK => ⟨fun _ => hK _ _ ⟨fun h => ?_, fun h => ?_⟩, fun h => (by cases h)⟩⟩
  · have h := of_decide_eq_true h
    have hlt : k < d := by
      rcases Nat.lt_or_ge k d with hh | hh
      · exact hh
      · rw [show d - k = 0 by omega] at h; simp at h
    refine ⟨d - (k + 1), by omega, k + 1, by rw [w64 (by omega)]; omega, by omega, rfl, ?_, l1.trans l2⟩
    rw [show (2 : Int) = ((2 : Nat) : Int) from rfl, tdiv_nat, w64 (by omega), show d - k = d - (k + 1) + 1 by omega, Nat.pow_succ, Nat.mul_div_cancel _ (by decide)]
  · have h := of_decide_eq_false h
    have : k = d := by
      rcases Nat.lt_or_ge k d with hh | hh
      · have : 2 ^ 1 ≤ 2 ^ (d - k) := Nat.pow_le_pow_right (by decide) (by omega)
        omega
      · omega
    subst this
    exact ⟨rfl, l1.trans l2⟩
theorem RAt_spec {d leaf : Nat} (hd : d ≤ 16) (hl : leaf < 2 ^ d) (level : Nat) (hv : level ≤ d) :
    Gives Tryz.prog F_ref6_At [.int .i64 (2 ^ d : Nat), .int .i64 leaf, .int .i64 level] (.tup [.int .i64 (atL d leaf level : Nat), .bool true]) := by
  intro st
  obtain ⟨h1, h2⟩ := pow16 hd
  refine w_ref6_At ?_
  refine (RDepth_spec hd st).mono ?_
  rintro _ st1 ⟨rfl, l1⟩
  refine ⟨_, rfl, ?_⟩
  refine (RLeaves_spec hd st1).mono ?_
  rintro _ st2 ⟨rfl, l2⟩
  have e0 : decide ((leaf : Int) < 0) = false := by simp
  have e1 : decide ((leaf : Int) ≥ (2 ^ d : Nat)) = false := by simp; exact_mod_cast hl
  have e2 : decide ((level : Int) < 0) = false := by simp
  have e3 : decide ((level : Int) > (d : Int)) = false := by simp; omega
  rw [e0, e1, e2, e3]
  refine ⟨_, rfl, fun K hK => ⟨fun _ => hK _ _ fun K14 h14 => ⟨fun _ => h14 _ _ fun K17 h17 => ⟨fun _ => h17 _ _ fun K20 h20 => ⟨fun _ => h20 _ _ ⟨fun h => (by cases h), fun _ => ?_⟩, fun h => (by cases h)⟩, fun h => (by cases h)⟩, fun h => (by cases h)⟩, fun h => (by cases h)⟩⟩
  have hb := atL_lt hl hv
  have hp := pow16 (show level ≤ 16 by omega)
  rw [wu64 (n := (level : Int)) (by omega), w64 (n := (d : Int) - level) (by omega), wu64 (by omega)]
  refine ⟨by omega, by omega, ?_, l1.trans l2⟩
  rw [Int.toNat_natCast, Nat.min_eq_left (by omega), show ((d : Int) - level).toNat = d - level by omega, Nat.min_eq_left (by omega), fdiv_pow]
  have e1 : (1 : Int) * 2 ^ level = ((2 ^ level : Nat) : Int) := by simp
  have hq : leaf / 2 ^ (d - level) ≤ leaf := Nat.div_le_self _ _
  have hat : atL d leaf level = 2 ^ level - 1 + leaf / 2 ^ (d - level) := rfl
  generalize leaf / 2 ^ (d - level) = q at hq hat ⊢
  rw [e1, w64 (n := ((2 ^ level : Nat) : Int)) (by omega), w64 (n := ((2 ^ level : Nat) : Int) - 1) (by omega), w64 (by omega)]
  congr 4
  omega
theorem ROn_spec {d leaf : Nat} (hd : d ≤ 16) (hl : leaf < 2 ^ d) : Makes Tryz.prog F_ref6_On [.int .i64 (2 ^ d : Nat), .int .i64 leaf] 1 (Is (onL d leaf)) := by
  intro st
  refine w_ref6_On ?_
  refine ⟨fun n out c level st' => ∃ k : Nat, level = k ∧ k ≤ d + 1 ∧ n = d + 1 - k ∧ out = Is ((List.range k).map fun l => atL d leaf l) ∧ Own st st' c, ⟨d + 1, 0, rfl, by omega, rfl, rfl, Own.nil (.refl st)⟩, ?_⟩
  rintro _ _ c _ st1 ⟨k, rfl, hk, rfl, rfl, ho⟩
  refine (RDepth_spec hd st1).mono ?_
  rintro _ st2 ⟨rfl, l2⟩
  have ho2 := ho.step l2
  refine ⟨_, rfl, br (fun h => ?_) fun h => ?_⟩
  · have hkd : k ≤ d := by omega
    intro K hK
    refine (RAt_spec hd hl k hkd st2).mono ?_
    rintro _ st3 ⟨rfl, l3⟩
    have ho3 := ho2.step l3
    refine ⟨_, _, rfl, fun _ => ⟨ho3.has (by simp; omega), fun c' st4 ha => hK _ _ _ ⟨d + 1 - (k + 1), by omega, k + 1, by rw [w64 (by omega)]; omega, by omega, rfl, ?_, ho3.app ha⟩⟩, fun h => (by cases h)⟩
    rw [range_step, Is_append]; rfl
  · have : k = d + 1 := by omega
    subst this
    exact ⟨c, rfl, ho2⟩
def bl (x : Nat) : Nat := if x = 0 then 0 else x.log2 + 1
theorem bl_le {x k : Nat} : bl x ≤ k ↔ x < 2 ^ k := by
  unfold bl
  split
  · rename_i h; subst h; simp [Nat.pow_pos]
  · rename_i h
    have := Nat.log2_lt (n := x) (k := k) h
    omega
theorem bl_256 {x : Nat} (h : 256 ≤ x) : bl x = bl (x / 256) + 8 := by
  have h1 : x / 256 < 2 ^ bl (x / 256) := bl_le.1 (Nat.le_refl _)
  have h2 : x < 2 ^ bl x := bl_le.1 (Nat.le_refl _)
  have h8 : 8 ≤ bl x := by
    rcases Nat.lt_or_ge (bl x) 8 with hh | hh
    · have : x < 2 ^ 8 := bl_le.1 (by omega)
      omega
    · exact hh
  refine Nat.le_antisymm (bl_le.2 ?_) ?_
  · rw [Nat.pow_add]; rw [Nat.div_lt_iff_lt_mul (by decide)] at h1; exact h1
  · have : x / 256 < 2 ^ (bl x - 8) := by
      rw [Nat.div_lt_iff_lt_mul (by decide), show (256 : Nat) = 2 ^ 8 from rfl, ← Nat.pow_add, show bl x - 8 + 8 = bl x by omega]; exact h2
    have := bl_le.2 this
    omega
end Go.Proofs.YtffenelcgjdbiaaGreatDoor
namespace Go.Proofs.YtffenelcgjdbiaaGreatDoor
open Go Go.Sim
set_option maxRecDepth 100000
def len8 : List UInt8 := [0, 1, 2, 2, 3, 3, 3, 3, 4, 4, 4, 4, 4, 4, 4, 4, 5, 5, 5, 5, 5, 5, 5, 5, 5, 5, 5, 5, 5, 5, 5, 5, 6, 6, 6, 6, 6, 6, 6, 6, 6, 6, 6, 6, 6, 6, 6, 6, 6, 6, 6, 6, 6, 6, 6, 6, 6, 6, 6, 6, 6, 6, 6, 6, 7, 7, 7, 7, 7, 7, 7, 7, 7, 7, 7, 7, 7, 7, 7, 7, 7, 7, 7, 7, 7, 7, 7, 7, 7, 7, 7, 7, 7, 7, 7, 7, 7, 7, 7, 7, 7, 7, 7, 7, 7, 7, 7, 7, 7, 7, 7, 7, 7, 7, 7, 7, 7, 7, 7, 7, 7, 7, 7, 7, 7, 7, 7, 7, 8, 8, 8, 8, 8, 8, 8, 8, 8, 8, 8, 8, 8, 8, 8, 8, 8, 8, 8, 8, 8, 8, 8, 8, 8, 8, 8, 8, 8, 8, 8, 8, 8, 8, 8, 8, 8, 8, 8, 8, 8, 8, 8, 8, 8, 8, 8, 8, 8, 8, 8, 8, 8, 8, 8, 8, 8, 8, 8, 8, 8, 8, 8, 8, 8, 8, 8, 8, 8, 8, 8, 8, 8, 8, 8, 8, 8, 8, 8, 8, 8, 8, 8, 8, 8, 8, 8, 8, 8, 8, 8, 8, 8, 8, 8, 8, 8, 8, 8, 8, 8, 8, 8, 8, 8, 8, 8, 8, 8, 8, 8, 8, 8, 8, 8, 8, 8, 8, 8, 8, 8, 8, 8, 8, 8, 8, 8, 8]
theorem len8_all : ∀ k : Fin 256, len8[k.val]? = some (UInt8.ofNat (bl k.val)) := by decide +kernel
theorem bl_small {k : Nat} (h : k < 256) : bl k ≤ 8 := bl_le.2 (by omega)
theorem Len_spec (x : Nat) (hx : x < 65536) : Gives Tryz.prog F_math_bits_Len [.int .u64 x] (.int .i64 (bl x)) := by
  intro st
  refine w_math_bits_Len ?_
  refine w_math_bits_Len64 ?_
  intro K hK
  refine br (fun h => by omega) fun _ => ?_
  refine hK _ _ _ fun K8 h8 => ?_
  refine br (fun h => by omega) fun _ => ?_
  refine h8 _ _ _ fun K12 h12 => ?_
  have fin : ∀ (y n : Nat), y < 256 → n ≤ 8 → bl x = n + bl y → K12 (y : Int) (n : Int) st := by
    intro y n hy hn he
    refine h12 _ _ _ ⟨y, by rw [wrap_u8 (by omega) (by omega)], _, len8_all ⟨y, hy⟩, _, rfl, ?_, .refl _⟩
    have hb := bl_small hy
    have e : ((UInt8.ofNat (bl y)).toNat : Int) = (bl y : Int) := by simp; omega
    rw [e, w64 (n := (bl y : Int)) (by omega), w64 (by omega), he]
    congr 2
  refine br (fun h => ?_) fun h => ?_
  · rw [fdiv_pow, show IntKind.i64.wrap (0 + 8) = ((8 : Nat) : Int) from rfl]
    exact fin (x / 2 ^ 8) 8 (by omega) (by omega) (by rw [bl_256 (by omega), show (2 : Nat) ^ 8 = 256 from rfl]; omega)
  · exact fin x 0 (by omega) (by omega) (by omega)
theorem Meet_spec {d a b : Nat} (hd : d ≤ 16) (ha : a < 2 ^ d) (hb : b < 2 ^ d) : Gives Tryz.prog F_path_Meet [.int .i64 (2 ^ d : Nat), .int .i64 a, .int .i64 b] (.int .i64 ((d : Int) - bl (a ^^^ b))) := by
  intro st
  obtain ⟨h1, h2⟩ := pow16 hd
  refine w_path_Meet ?_
  have hh : ∀ q : Nat, q < 2 ^ d → decide (0 ≤ (q : Int) ∧ (q : Int) < (2 ^ d : Nat)) = true := fun q hq => by simp; exact_mod_cast hq
  refine (has_spec hd a st).mono ?_
  rintro _ st1 ⟨rfl, l1⟩
  rw [hh a ha]
  refine ⟨_, rfl, fun K hK => ⟨fun _ => ?_, fun h => (by cases h)⟩⟩
  refine (has_spec hd b st1).mono ?_
  rintro _ st2 ⟨rfl, l2⟩
  rw [hh b hb]
  refine ⟨_, rfl, hK _ _ ⟨fun h => (by cases h), fun _ => ?_⟩⟩
  refine (Depth_spec hd st2).mono ?_
  rintro _ st3 ⟨rfl, l3⟩
  refine ⟨_, rfl, ?_⟩
  have hx : a ^^^ b < 2 ^ d := Nat.xor_lt_two_pow ha hb
  have hx2 : a ^^^ b < 2 ^ 16 := Nat.lt_of_lt_of_le hx (Nat.pow_le_pow_right (by decide) hd)
  rw [xor_i64 a b (by omega) (by omega), wu64 (by omega)]
  refine (Len_spec _ (by omega) st3).mono ?_
  rintro _ st4 ⟨rfl, l4⟩
  refine ⟨_, rfl, ?_, ((l1.trans l2).trans l3).trans l4⟩
  have : bl (a ^^^ b) ≤ d := bl_le.2 hx
  rw [w64 (by omega)]
theorem Grow_spec (n : Nat) (hp : 0 < n) (hn : n ≤ 2 ^ 40) (st : St) : RCall Tryz.prog F_slices_Grow_byte_byte [.lst 1 [] .nil, .int .i64 n] st fun r st' => ∃ c, r = .ret (.lst 1 [] c) ∧ Own st st' c := by
  refine RCall.frz (sz := 0) (id := 0) (off := 0) (len := 0) (cap := 0) false ?_
  refine w_slices_Grow_byte_byteN ?_
  have e : IntKind.i64.wrap ((n : Int) - (IntKind.i64.wrap (0 - (([] : List V).length : Int)))) = (n : Int) := by
    rw [show IntKind.i64.wrap (0 - (([] : List V).length : Int)) = 0 from rfl, w64 (by omega)]; omega
  rw [e]
  refine br (fun h => by omega) fun _ K hK => ?_
  refine br (fun _ => ?_) fun h => by omega
  have hm : appmEl st 1 (.int .u8 0) true (.int .i64 (n : Int)) = some (By (List.replicate n 0)) := by
    simp only [appmEl]
    rw [if_pos (by omega), Int.toNat_natCast, By_rep]
  refine ⟨0, rfl, by simp, rfl, _, hm, by intro h; have := congrArg List.length h; simp at this; omega, by simp; omega, fun k st5 hk h5 => ⟨0, rfl, by omega, hK _ _ ?_⟩⟩
  have hk' : n ≤ k := by simpa using hk
  have ho : flat (([] : List V).take 0) ++ flat (By (List.replicate n 0)) ++ spare (.int .u8 0) ((([] : List V).take 0).length + (By (List.replicate n 0)).length) k = By ([] ++ List.replicate k 0) := by
    rw [By_flat, spare_u8]
    simp only [List.take_nil, List.length_nil, By_length, List.length_replicate, Nat.zero_add, List.nil_append]
    rw [show flat ([] : List V) = By [] from rfl, ← By_append, ← By_append, List.nil_append, List.replicate_append_replicate, show n + (k - n) = k by omega]
  rw [ho] at h5
  have c5 : st5.cells st.next = some (By ([] ++ List.replicate k 0)) := by rw [h5]; exact cells_new _ _
  have hf := frz_By (l := []) (sp := List.replicate k 0) (cap := k) (by simp)
  refine ⟨_, _, c5, hf, _, rfl, ?_⟩
  refine Own.frz ?_ (Nat.le_refl _)
  rw [h5]; exact (St.le.refl st).new _
theorem flen (ps : List (List UInt8 × Cap)) (k : Nat) : ((ps.take k).map (·.1)).flatten.length ≤ (ps.map (·.1)).flatten.length := by
  have : ps.map (·.1) = (ps.take k).map (·.1) ++ (ps.drop k).map (·.1) := by rw [← List.map_append, List.take_append_drop]
  rw [this, List.flatten_append, List.length_append]; omega
theorem fstep (ps : List (List UInt8 × Cap)) {k : Nat} (h : k < ps.length) : ((ps.take (k + 1)).map (·.1)).flatten = ((ps.take k).map (·.1)).flatten ++ ps[k].1 := by
  rw [List.take_succ_eq_append_getElem h]
  simp only [List.map_append, List.map_cons, List.map_nil, List.flatten_append, List.flatten_cons, List.flatten_nil, List.append_nil]
theorem Concat_spec (ps : List (List UInt8 × Cap)) (c : Cap) (hl : ps.length < 2 ^ 40) (hp : 0 < (ps.map (·.1)).flatten.length) (hn : (ps.map (·.1)).flatten.length ≤ 2 ^ 40) (st : St) :
    RCall Tryz.prog F_slices_Concat_byte_byte [.lst 1 (ps.map fun p => V.lst 1 (By p.1) p.2) c] st fun r st' => ∃ c', r = .ret (.lst 1 (By (ps.map (·.1)).flatten) c') ∧ Own st st' c' := by
  refine w_slices_Concat_byte_byte ?_
  rw [List.length_map]
  refine ⟨fun m size i st' => ∃ k : Nat, i = k ∧ k ≤ ps.length ∧ m = ps.length - k ∧ size = (((ps.take k).map (·.1)).flatten.length : Int) ∧ st' = st, ⟨ps.length, 0, rfl, by omega, rfl, by simp, rfl⟩, ?_⟩
  rintro _ _ _ st1 ⟨k, rfl, hk, rfl, rfl, rfl⟩
  refine br (fun hlt => ?_) fun hge => ?_
  · have hk' : k < ps.length := by omega
    refine ⟨k, rfl, By ps[k].1, ps[k].2, by simp [hk'], ?_⟩
    have h1 := flen ps (k + 1)
    have h2 := fstep ps hk'
    rw [h2, List.length_append] at h1
    rw [By_length, w64 (by omega)]
    refine br (fun h => by omega) fun _ => ⟨ps.length - (k + 1), by omega, k + 1, by rw [w64 (by omega)]; omega, by omega, rfl, by rw [h2, List.length_append]; omega, rfl⟩
  rw [List.take_of_length_le (by omega)]
  refine (Grow_spec _ hp hn st1).mono ?_
  rintro _ st2 ⟨c2, rfl, ho⟩
  refine ⟨_, _, rfl, ?_⟩
  refine ⟨fun m out c i st' => ∃ k : Nat, i = k ∧ k ≤ ps.length ∧ m = ps.length - k ∧ out = By ((ps.take k).map (·.1)).flatten ∧ Own st1 st' c, ⟨ps.length, 0, rfl, by omega, rfl, rfl, ho⟩, ?_⟩
  rintro _ _ c3 _ st3 ⟨k, rfl, hk, rfl, rfl, ho3⟩
  refine br (fun hlt => ?_) fun hge => ?_
  · have hk' : k < ps.length := by omega
    have h1 := flen ps (k + 1)
    have h2 := fstep ps hk'
    rw [h2, List.length_append] at h1
    refine ⟨k, rfl, By ps[k].1, ps[k].2, by simp [hk'], ho3.has (by simp only [By_length]; omega), fun c4 st4 ha => ⟨ps.length - (k + 1), by omega, k + 1, by rw [w64 (by omega)]; omega, by omega, rfl, by rw [h2, By_append], ho3.app ha⟩⟩
  · rw [List.take_of_length_le (by omega)]
    exact ⟨c3, rfl, ho3⟩
end Go.Proofs.YtffenelcgjdbiaaGreatDoor
namespace Go.Sim
open Go
def same (a b : St) (i : Nat) : Prop := b.cells i = a.cells i ∧ b.maps i = a.maps i ∧ b.tok i = a.tok i
theorem same.refl (a : St) (i : Nat) : same a a i := ⟨rfl, rfl, rfl⟩
structure Asn where
  holds : St → (Nat → Prop) → Prop
  frame : ∀ {a b : St} {I : Nat → Prop}, holds a I → a.next ≤ b.next → (∀ i, I i → same a b i) → holds b I
  bound : ∀ {a : St} {I : Nat → Prop}, holds a I → ∀ i, I i → i < a.next
theorem Asn.eq {A B : Asn} (h : ∀ st I, A.holds st I ↔ B.holds st I) : A = B := by
  cases A; cases B
  congr
  funext st I
  exact propext (h st I)
def Asn.sep (A B : Asn) : Asn where
  holds st I := ∃ I1 I2, A.holds st I1 ∧ B.holds st I2 ∧ (∀ i, I1 i → I2 i → False) ∧ I = fun i => I1 i ∨ I2 i
  frame := by
    rintro a b I ⟨I1, I2, h1, h2, hd, rfl⟩ hn hs
    exact ⟨I1, I2, A.frame h1 hn fun i hi => hs i (.inl hi), B.frame h2 hn fun i hi => hs i (.inr hi), hd, rfl⟩
  bound := by
    rintro a I ⟨I1, I2, h1, h2, hd, rfl⟩ i hi
    rcases hi with hi | hi
    · exact A.bound h1 i hi
    · exact B.bound h2 i hi
instance : Mul Asn := ⟨Asn.sep⟩
theorem sep_comm (A B : Asn) : A * B = B * A := by
  have h : ∀ (A B : Asn) st I, (A * B).holds st I → (B * A).holds st I := by
    rintro A B st I ⟨I1, I2, h1, h2, hd, rfl⟩
    exact ⟨I2, I1, h2, h1, fun i a b => hd i b a, funext fun i => propext Or.comm⟩
  exact Asn.eq fun st I => ⟨h A B st I, h B A st I⟩
theorem sep_assoc (A B C : Asn) : A * B * C = A * (B * C) := by
  refine Asn.eq fun st I => ⟨?_, ?_⟩
  · rintro ⟨I12, I3, ⟨I1, I2, h1, h2, hd, rfl⟩, h3, hd2, rfl⟩
    exact ⟨I1, _, h1, ⟨I2, I3, h2, h3, fun i a b => hd2 i (.inr a) b, rfl⟩, fun i a b => b.elim (hd i a) (hd2 i (.inl a)), funext fun i => propext or_assoc⟩
  · rintro ⟨I1, I23, h1, ⟨I2, I3, h2, h3, hd, rfl⟩, hd2, rfl⟩
    exact ⟨_, I3, ⟨I1, I2, h1, h2, fun i a b => hd2 i a (.inl b), rfl⟩, h3, fun i a b => a.elim (fun a => hd2 i a (.inr b)) (fun a => hd i a b), funext fun i => propext or_assoc.symm⟩
instance : Std.Associative (HMul.hMul : Asn → Asn → Asn) := ⟨sep_assoc⟩
instance : Std.Commutative (HMul.hMul : Asn → Asn → Asn) := ⟨sep_comm⟩
def emp : Asn where
  holds _ I := I = fun _ => False
  frame h _ _ := h
  bound := by rintro a I rfl i hi; exact hi.elim
theorem sep_emp (A : Asn) : A * emp = A := by
  refine Asn.eq fun st I => ⟨?_, fun h => ⟨I, _, h, rfl, fun i _ x => x, funext fun i => propext (by simp)⟩⟩
  rintro ⟨I1, _, h1, rfl, hd, rfl⟩
  have : (fun i => I1 i ∨ False) = I1 := funext fun i => propext (by simp)
  rw [this]; exact h1
def pand (p : Prop) (A : Asn) : Asn where
  holds st I := p ∧ A.holds st I
  frame h hn hs := ⟨h.1, A.frame h.2 hn hs⟩
  bound h := A.bound h.2
def ex {α : Type} (f : α → Asn) : Asn where
  holds st I := ∃ a, (f a).holds st I
  frame h hn hs := by obtain ⟨a, h⟩ := h; exact ⟨a, (f a).frame h hn hs⟩
  bound h := by obtain ⟨a, h⟩ := h; exact (f a).bound h
def cellA (id : Nat) (cs : List V) : Asn where
  holds st I := st.cells id = some cs ∧ I = (· = id)
  frame := by rintro a b I ⟨h, rfl⟩ hn hs; exact ⟨by rw [(hs id rfl).1, h], rfl⟩
  bound := by rintro a I ⟨h, rfl⟩ i rfl; exact St.lt_of_cells h
def mapA (id : Nat) (m : List (V × V)) : Asn where
  holds st I := st.maps id = some m ∧ I = (· = id)
  frame := by rintro a b I ⟨h, rfl⟩ hn hs; exact ⟨by rw [(hs id rfl).2.1, h], rfl⟩
  bound := by rintro a I ⟨h, rfl⟩ i rfl; exact St.lt_of_maps h
def capI : Cap → Nat → Prop
  | .tail t, i => i = t
  | _, _ => False
def capA (c : Cap) : Asn where
  holds st I := canApp st c = true ∧ I = capI c
  frame := by
    rintro a b I ⟨h, rfl⟩ hn hs
    refine ⟨?_, rfl⟩
    cases c with
    | tail t => show b.tok t = true; rw [(hs t rfl).2.2]; exact h
    | _ => exact h
  bound := by
    rintro a I ⟨h, rfl⟩ i hi
    cases c with
    | tail t => cases hi; exact St.lt_of_tok h
    | _ => exact hi.elim
structure Mov (I : Nat → Prop) (a : St) (J : Nat → Prop) (b : St) : Prop where
  leX : a.leX I b
  fp : ∀ i, J i → I i ∨ a.next ≤ i
theorem Mov.refl (I : Nat → Prop) (a : St) : Mov I a I a := ⟨.refl I a, fun _ h => .inl h⟩
theorem Mov.trans {I J K : Nat → Prop} {a b c : St} (h : Mov I a J b) (k : Mov J b K c) : Mov I a K c := by
  have hn : ∀ i, i < a.next → ¬ I i → ¬ J i := fun i hi hI hJ => by rcases h.fp i hJ with x | x; exact hI x; omega
  have hb : ∀ i, i < a.next → i < b.next := fun i hi => Nat.lt_of_lt_of_le hi h.leX.next
  refine ⟨⟨Nat.le_trans h.leX.next k.leX.next, fun i hi hI => ?_, fun i hi hI => ?_, fun i hi hI => ?_⟩, fun i hK => ?_⟩
  · rw [k.leX.cells i (hb i hi) (hn i hi hI), h.leX.cells i hi hI]
  · rw [k.leX.maps i (hb i hi) (hn i hi hI), h.leX.maps i hi hI]
  · rw [k.leX.tok i (hb i hi) (hn i hi hI), h.leX.tok i hi hI]
  · rcases k.fp i hK with x | x
    · exact h.fp i x
    · right; have := h.leX.next; omega
def Now (st : St) (I : Nat → Prop) (A : Asn) (s : St) : Prop := ∃ J, A.holds s J ∧ Mov I st J s
theorem Now.init {st : St} {I : Nat → Prop} {A : Asn} (h : A.holds st I) : Now st I A st := ⟨I, h, .refl I st⟩
theorem Now.perm {st s : St} {I : Nat → Prop} {A B : Asn} (h : Now st I A s) (e : A = B) : Now st I B s := e ▸ h
theorem Now.drop {st s : St} {I : Nat → Prop} {A B : Asn} (h : Now st I (A * B) s) : Now st I B s := by
  obtain ⟨J, ⟨I1, I2, h1, h2, hd, rfl⟩, hs⟩ := h
  exact ⟨I2, h2, hs.leX, fun i hi => hs.fp i (.inr hi)⟩
theorem Now.cells {st s : St} {I : Nat → Prop} {id : Nat} {cs : List V} {R : Asn} (h : Now st I (cellA id cs * R) s) : s.cells id = some cs := by
  obtain ⟨J, ⟨I1, I2, h1, h2, hd, rfl⟩, hs⟩ := h
  exact h1.1
theorem Now.maps {st s : St} {I : Nat → Prop} {id : Nat} {m : List (V × V)} {R : Asn} (h : Now st I (mapA id m * R) s) : s.maps id = some m := by
  obtain ⟨J, ⟨I1, I2, h1, h2, hd, rfl⟩, hs⟩ := h
  exact h1.1
theorem Now.can {st s : St} {I : Nat → Prop} {c : Cap} {R : Asn} (h : Now st I (capA c * R) s) : canApp s c = true := by
  obtain ⟨J, ⟨I1, I2, h1, h2, hd, rfl⟩, hs⟩ := h
  exact h1.1
theorem Now.step {st s s' : St} {I : Nat → Prop} {A A' R : Asn} (h : Now st I (A * R) s) (k : ∀ J, A.holds s J → ∃ J', A'.holds s' J' ∧ Mov J s J' s') : Now st I (A' * R) s' := by
  obtain ⟨J, ⟨I1, I2, h1, h2, hd, rfl⟩, hs⟩ := h
  obtain ⟨J', h1', hs'⟩ := k I1 h1
  have hb := R.bound h2
  refine ⟨_, ⟨J', I2, h1', R.frame h2 hs'.leX.next fun i hi => ⟨hs'.leX.cells i (hb i hi) fun x => hd i x hi, hs'.leX.maps i (hb i hi) fun x => hd i x hi, hs'.leX.tok i (hb i hi) fun x => hd i x hi⟩,
    fun i a b => ?_, rfl⟩, hs.trans ⟨hs'.leX.mono fun i _ x => .inl x, ?_⟩⟩
  · rcases hs'.fp i a with x | x
    · exact hd i x b
    · have := hb i b; omega
  · rintro i (x | x)
    · rcases hs'.fp i x with y | y
      · exact .inl (.inl y)
      · exact .inr y
    · exact .inl (.inr x)
theorem Now.imp {st s : St} {I : Nat → Prop} {A A' R : Asn} (h : Now st I (A * R) s) (k : ∀ J, A.holds s J → A'.holds s J) : Now st I (A' * R) s :=
  h.step fun J hJ => ⟨J, k J hJ, .refl J s⟩
theorem Now.fresh {st s s' : St} {I : Nat → Prop} {A N : Asn} (h : Now st I A s) (hl : s.le s') {J : Nat → Prop} (hN : N.holds s' J) (hJ : ∀ i, J i → s.next ≤ i) : Now st I (N * A) s' := by
  obtain ⟨I2, h2, hs⟩ := h
  have hb := A.bound h2
  refine ⟨_, ⟨J, I2, hN, A.frame h2 hl.next fun i hi => ⟨hl.cells i (hb i hi), hl.maps i (hb i hi), hl.tok i (hb i hi)⟩, fun i a b => ?_, rfl⟩, hs.trans ⟨hl.leX _, ?_⟩⟩
  · have := hb i b; have := hJ i a; omega
  · rintro i (x | x)
    · exact .inr (hJ i x)
    · exact .inl x
theorem Now.le {st s s' : St} {I : Nat → Prop} {A : Asn} (h : Now st I A s) (hl : s.le s') : Now st I A s' := by
  obtain ⟨I2, h2, hs⟩ := h
  have hb := A.bound h2
  exact ⟨I2, A.frame h2 hl.next fun i hi => ⟨hl.cells i (hb i hi), hl.maps i (hb i hi), hl.tok i (hb i hi)⟩, hs.trans ⟨hl.leX _, fun i x => .inl x⟩⟩
theorem Now.own {st s s' : St} {I : Nat → Prop} {A : Asn} {c : Cap} (h : Now st I A s) (ho : Own s s' c) : Now st I (capA c * A) s' := by
  refine h.fresh ho.le (J := capI c) ⟨ho.can, rfl⟩ fun i hi => ?_
  have := ho.fr
  cases c with
  | tail t => cases hi; exact this
  | _ => exact hi.elim
theorem Now.set {st s : St} {I : Nat → Prop} {id : Nat} {cs : List V} {R : Asn} (h : Now st I (cellA id cs * R) s) (cs' : List V) : Now st I (cellA id cs' * R) (s.setC id cs') := by
  refine h.step fun J hJ => ⟨J, ⟨?_, hJ.2⟩, ?_, fun i x => .inl x⟩
  · rw [setC_cells, if_pos rfl, hJ.1]; rfl
  · exact (s.leX_setC id cs').mono fun i _ x => by rw [hJ.2]; exact x
theorem Now.setM {st s : St} {I : Nat → Prop} {id : Nat} {m : List (V × V)} {R : Asn} (h : Now st I (mapA id m * R) s) (m' : List (V × V)) : Now st I (mapA id m' * R) (s.setM id m') := by
  refine h.step fun J hJ => ⟨J, ⟨?_, hJ.2⟩, ?_, fun i x => .inl x⟩
  · rw [setM_maps, if_pos rfl, hJ.1]; rfl
  · exact (s.leX_setM id m').mono fun i _ x => by rw [hJ.2]; exact x
theorem Now.newC {st s : St} {I : Nat → Prop} {A : Asn} (h : Now st I A s) (cs : List V) : Now st I (cellA s.next cs * A) (s.newC cs) :=
  h.fresh ((St.le.refl s).new cs) (J := (· = s.next)) ⟨cells_new _ _, rfl⟩ fun i hi => Nat.le_of_eq hi.symm
theorem Now.newM {st s : St} {I : Nat → Prop} {A : Asn} (h : Now st I A s) : Now st I (mapA s.next [] * A) s.newM :=
  h.fresh (St.le.refl s).newM (J := (· = s.next)) ⟨by rw [newM_maps, if_pos rfl], rfl⟩ fun i hi => Nat.le_of_eq hi.symm
theorem Now.app {st s s' : St} {I : Nat → Prop} {c c' : Cap} {m : List V} {R : Asn} (h : Now st I (capA c * R) s) (ha : Apd s c m c' s') : Now st I (capA c' * R) s' := by
  refine h.step fun J hJ => ⟨capI c', ⟨?_, rfl⟩, ?_⟩
  · obtain ⟨rfl, rfl⟩ := ha; exact canApp_app _ _ _ hJ.1
  · obtain ⟨rfl, rfl⟩ := ha
    obtain ⟨hc, rfl⟩ := hJ
    by_cases hm : m = []
    · subst hm; exact .refl _ _
    · rw [appSt_cons _ _ hm, appCap_cons _ _ hm]
      refine ⟨⟨?_, ?_, ?_, ?_⟩, fun i hi => .inr (Nat.le_of_eq (by cases hi; rfl))⟩
      · cases c <;> simp [St.newT, St.killT]
      · cases c <;> intros <;> rfl
      · cases c <;> intros <;> rfl
      · intro i hi hn
        cases c with
        | tail t => show upd (upd s.tok t false) s.next true i = _; rw [upd_ne _ _ (by omega), upd_ne _ _ hn]
        | _ => show upd s.tok s.next true i = _; rw [upd_ne _ _ (by omega)]
theorem Now.frz {st s : St} {I : Nat → Prop} {id : Nat} {cs : List V} {R : Asn} (h : Now st I (cellA id cs * R) s) : Now st I (capA (.tail s.next) * R) (s.killC id).newT := by
  refine h.step fun J hJ => ⟨_, ⟨by simp [canApp, St.newT, St.killC], rfl⟩, ⟨Nat.le_succ _, ?_, ?_, ?_⟩, fun i hi => .inr (Nat.le_of_eq (by cases hi; rfl))⟩
  · intro i hi hn; exact upd_ne _ _ (by rw [hJ.2] at hn; exact hn)
  · intros; rfl
  · intro i hi hn; exact upd_ne _ _ (by show i ≠ s.next; omega)
def Does (P : Program) (f : FuncId) (args : List V) (A : Asn) (Q : Res → Asn) : Prop :=
  ∀ st I, A.holds st I → RCall P f args st fun r s => Now st I (Q r) s
theorem Does.call {P : Program} {f : FuncId} {args : List V} {A R : Asn} {Q : Res → Asn} (sp : Does P f args A Q) {st s : St} {I : Nat → Prop} {K : Res → St → Prop}
    (h : Now st I (A * R) s) (k : ∀ r s', Now st I (Q r * R) s' → K r s') : RCall P f args s K := by
  obtain ⟨J, ⟨I1, I2, h1, h2, hd, rfl⟩, hs⟩ := h
  refine (sp s I1 h1).mono ?_
  rintro r s' hN
  refine k r s' ?_
  have h' : Now st I (A * R) s := ⟨_, ⟨I1, I2, h1, h2, hd, rfl⟩, hs⟩
  obtain ⟨J', hq, hst⟩ := hN
  have hb := R.bound h2
  refine ⟨_, ⟨J', I2, hq, R.frame h2 hst.leX.next fun i hi => ⟨hst.leX.cells i (hb i hi) fun x => hd i x hi, hst.leX.maps i (hb i hi) fun x => hd i x hi, hst.leX.tok i (hb i hi) fun x => hd i x hi⟩,
    fun i a b => ?_, rfl⟩, hs.trans ⟨hst.leX.mono fun i _ x => .inl x, ?_⟩⟩
  · rcases hst.fp i a with x | x
    · exact hd i x b
    · have := hb i b; omega
  · rintro i (x | x)
    · rcases hst.fp i x with y | y
      · exact .inl (.inl y)
      · exact .inr y
    · exact .inl (.inr x)
theorem Now.ex {st s : St} {I : Nat → Prop} {α : Type} {f : α → Asn} {R : Asn} (h : Now st I (ex f * R) s) : ∃ a, Now st I (f a * R) s := by
  obtain ⟨J, ⟨I1, I2, ⟨a, h1⟩, h2, hd, rfl⟩, hs⟩ := h
  exact ⟨a, _, ⟨I1, I2, h1, h2, hd, rfl⟩, hs⟩
theorem Now.pand {st s : St} {I : Nat → Prop} {p : Prop} {A R : Asn} (h : Now st I (pand p A * R) s) : p ∧ Now st I (A * R) s := by
  obtain ⟨J, ⟨I1, I2, ⟨hp, h1⟩, h2, hd, rfl⟩, hs⟩ := h
  exact ⟨hp, _, ⟨I1, I2, h1, h2, hd, rfl⟩, hs⟩
theorem Now.toEx {st s : St} {I : Nat → Prop} {α : Type} {f : α → Asn} {R : Asn} (a : α) (h : Now st I (f a * R) s) : Now st I (Go.Sim.ex f * R) s := h.imp fun _ hJ => ⟨a, hJ⟩
theorem Now.toPand {st s : St} {I : Nat → Prop} {p : Prop} {A R : Asn} (hp : p) (h : Now st I (A * R) s) : Now st I (Go.Sim.pand p A * R) s := h.imp fun _ hJ => ⟨hp, hJ⟩
theorem Now.emp {st s : St} {I : Nat → Prop} {A : Asn} (h : Now st I A s) : Now st I (A * Go.Sim.emp) s := h.perm (sep_emp A).symm
theorem Now.unemp {st s : St} {I : Nat → Prop} {A : Asn} (h : Now st I (A * Go.Sim.emp) s) : Now st I A s := h.perm (sep_emp A)
theorem Does.ret {P : Program} {f : FuncId} {args : List V} {A B R : Asn} {v : Res} (sp : Does P f args A fun r => Go.Sim.pand (r = v) B) {st s : St} {I : Nat → Prop} {K : Res → St → Prop}
    (h : Now st I (A * R) s) (k : ∀ s', Now st I (B * R) s' → K v s') : RCall P f args s K := by
  refine sp.call h ?_
  rintro r s' n
  obtain ⟨rfl, n2⟩ := n.pand
  exact k s' n2
theorem Does.retEx {P : Program} {f : FuncId} {args : List V} {α : Type} {A R : Asn} {B : α → Asn} {v : α → Res} (sp : Does P f args A fun r => Go.Sim.ex fun a => Go.Sim.pand (r = v a) (B a)) {st s : St} {I : Nat → Prop} {K : Res → St → Prop}
    (h : Now st I (A * R) s) (k : ∀ a s', Now st I (B a * R) s' → K (v a) s') : RCall P f args s K := by
  refine sp.call h ?_
  rintro r s' n
  obtain ⟨a, n1⟩ := n.ex
  obtain ⟨rfl, n2⟩ := n1.pand
  exact k a s' n2
end Go.Sim
namespace Go.Proofs.YtffenelcgjdbiaaGreatDoor
open Go Go.Sim
set_option maxRecDepth 100000
structure Ev where
  kind : Int
  at_ : Int
  head : List UInt8
  body : List UInt8
def Ev.cells (e : Ev) : List V := [.int .i64 e.kind, .int .i64 e.at_] ++ By e.head ++ [.lst 1 (By e.body) .unk]
def Ev.v (e : Ev) : V := .agg e.cells
def Evs (l : List Ev) : List V := l.map Ev.v
def head12 (b : List UInt8) : List UInt8 := b.take 12 ++ List.replicate (12 - b.length) 0
theorem head12_length (b : List UInt8) : (head12 b).length = 12 := by simp [head12]; omega
structure Dk where
  blocks : Nat
  size : Nat
  now : Int → List UInt8
  trace : List Ev
def Dk.has (x : Dk) (n : Int) : Bool := decide (0 ≤ n ∧ n < x.blocks)
def Dk.block (x : Dk) (n : Int) : List UInt8 := if x.has n then x.now n else []
def Dk.read (x : Dk) (n : Int) : Dk := { x with trace := x.trace ++ [⟨1, n, head12 (x.block n), []⟩] }
def fitL (size : Nat) (b : List UInt8) : List UInt8 := b.take size ++ List.replicate (size - b.length) 0
theorem fitL_length (size : Nat) (b : List UInt8) : (fitL size b).length = size := by simp [fitL]; omega
def Dk.write (x : Dk) (n : Int) (b : List UInt8) : Dk :=
  { x with now := fun i => if x.has n ∧ i = n then fitL x.size b else x.now i
           trace := x.trace ++ [⟨2, n, head12 (fitL x.size b), fitL x.size b⟩] }
def Dk.new (blocks size : Nat) : Dk := ⟨blocks, size, fun _ => List.replicate size 0, []⟩
def MapOk (x : Dk) (m : List (V × V)) : Prop :=
  ∀ n : Int, (lookM m .i64 n = some none ∧ x.now n = List.replicate x.size 0) ∨ (lookM m .i64 n = some (some (.lst 1 (By (x.now n)) .unk)) ∧ (x.now n).length = x.size)
def dkC (x : Dk) (sm nm : Nat) (lo : List V) (c ct : Cap) : List V :=
  [.int .i64 x.blocks, .int .i64 x.size, .map sm, .map nm, .lst 2 lo c, .int .i64 (-1), .bool false, .lst 15 (Evs x.trace) ct]
structure DkH where
  sm : Nat
  nm : Nat
  lo : List V
  c : Cap
  ct : Cap
  m : List (V × V)
def DkI (d : Nat) (x : Dk) (q : DkH) : Asn := cellA d (dkC x q.sm q.nm q.lo q.c q.ct) * (mapA q.nm q.m * (capA q.c * capA q.ct))
def DkA (d : Nat) (x : Dk) : Asn := ex fun q => pand (MapOk x q.m ∧ q.lo.length ≤ x.trace.length) (DkI d x q)
theorem lookM_upd {m : List (V × V)} {k : Int} {v : V} (h : (lookM m .i64 k).isSome = true) (j : Int) : lookM (updM m .i64 k v) .i64 j = if j = k then some (some v) else lookM m .i64 j := by
  induction m with
  | nil =>
    by_cases hj : j = k
    · subst hj; simp [updM, lookM]
    · rw [if_neg hj]; simp [updM, lookM, hj]
  | cons a r ih =>
    obtain ⟨a, u⟩ := a
    cases a with
    | int kj i =>
      simp only [lookM] at h
      by_cases hk : IntKind.i64 = kj
      · subst hk
        simp only [if_true] at h
        by_cases hi : k = i
        · subst hi
          by_cases hj : j = k
          · subst hj; simp [updM, lookM]
          · simp [updM, lookM, hj]
        · simp only [if_neg hi] at h
          simp only [updM, if_neg hi, lookM, if_true]
          rw [ih h]
          by_cases hj : j = k
          · subst hj; simp [hi]
          · simp only [if_neg hj]
      · rw [if_neg hk] at h; cases h
    | _ => cases h
theorem dkOpen {st s : St} {I : Nat → Prop} {d : Nat} {x : Dk} {R : Asn} (h : Now st I (DkA d x * R) s) :
    ∃ sm nm lo c ct m, MapOk x m ∧ lo.length ≤ x.trace.length ∧ Now st I (cellA d (dkC x sm nm lo c ct) * (mapA nm m * (capA c * (capA ct * R)))) s := by
  obtain ⟨q, n1⟩ := h.ex
  obtain ⟨hm, n2⟩ := n1.pand
  exact ⟨q.sm, q.nm, q.lo, q.c, q.ct, q.m, hm.1, hm.2, n2.perm (by simp only [DkI, sep_assoc])⟩
theorem dkClose {st s : St} {I : Nat → Prop} {d : Nat} {x : Dk} {R : Asn} {sm nm : Nat} {lo : List V} {c ct : Cap} {m : List (V × V)} (hm : MapOk x m) (hl : lo.length ≤ x.trace.length)
    (h : Now st I (cellA d (dkC x sm nm lo c ct) * (mapA nm m * (capA c * (capA ct * R)))) s) : Now st I (DkA d x * R) s := by
  refine Now.toEx ⟨sm, nm, lo, c, ct, m⟩ (Now.toPand ⟨hm, hl⟩ (h.perm ?_))
  simp only [DkI, sep_assoc]
theorem New_spec (blocks size : Nat) (hb : blocks ≤ 100000) (hs : size ≤ 60000) (st : St) : RCall Tryz.prog F_disk_New [.int .i64 blocks, .int .i64 size] st fun r s => ∃ d, r = .ret (.ptr d 0) ∧ Now st (fun _ => False) (DkA d (.new blocks size)) s := by
  refine w_disk_New ?_
  intro st3 h3 st4 h4 st5 h5
  refine ⟨_, rfl, ?_⟩
  have n0 : Now st (fun _ => False) emp st := Now.init rfl
  have n3 := n0.newM
  rw [← h3] at n3
  have n4 := n3.newM
  rw [← h4] at n4
  have n5 := n4.newC [.int .i64 (min (max (blocks : Int) 0) 100000), .int .i64 (min (max (size : Int) 0) 60000), .map st.next, .map st3.next, .lst 2 [] .nil, .int .i64 (-1), .bool false, .lst 15 [] .nil]
  rw [← h5, show min (max (blocks : Int) 0) 100000 = blocks by omega, show min (max (size : Int) 0) 60000 = size by omega] at n5
  have n5 : Now st (fun _ => False) (cellA st4.next (dkC (.new blocks size) st.next st3.next [] .nil .nil) * (mapA st3.next [] * (mapA st.next [] * emp))) st5 := n5.perm (by rw [h4]; rfl)
  have n6 := (n5.own (Own.nil (.refl st5))).own (Own.nil (.refl st5))
  have n7 := dkClose (x := .new blocks size) (lo := []) (fun n => .inl ⟨rfl, rfl⟩) (Nat.le_refl _) (n6.perm (B := cellA st4.next (dkC (.new blocks size) st.next st3.next [] .nil .nil) * (mapA st3.next [] * (capA .nil * (capA .nil * (mapA st.next [] * emp))))) (by ac_rfl))
  exact (n7.perm (sep_comm _ _)).drop
theorem Size_spec {d : Nat} {x : Dk} : Does Tryz.prog F_disk_Disk_Size [.ptr d 0] (DkA d x) fun r => pand (r = .ret (.int .i64 x.size)) (DkA d x) := by
  intro st I h
  have n := (Now.init h).emp
  obtain ⟨sm, nm, lo, c, ct, m, hm, hl, n3⟩ := dkOpen n
  exact w_disk_Disk_Size ⟨_, ldv1 n3.cells rfl, (Now.toPand rfl n).unemp⟩
theorem has_spec' {d : Nat} {cs : List V} {b : Nat} (h0 : cs[0]? = some (.int .i64 b)) (n : Int) {st : St} (hc : st.cells d = some cs) :
    RCall Tryz.prog F_disk_Disk_has [.ptr d 0, .int .i64 n] st fun r s => r = .ret (.bool (decide (0 ≤ n ∧ n < b))) ∧ s = st := by
  refine w_disk_Disk_has ?_
  intro K hK
  refine br (fun h => ⟨_, ldv1 hc h0, hK _ _ ⟨?_, rfl⟩⟩) fun h => hK _ _ ⟨?_, rfl⟩
  · congr 2; simp; omega
  · congr 2; simp; omega
theorem count_spec {d : Nat} {x : Dk} {sm nm : Nat} {lo : List V} {c ct : Cap} : Does Tryz.prog F_disk_Disk_count [.ptr d 0] (cellA d (dkC x sm nm lo c ct)) fun r => pand (r = .ret (.tup [])) (cellA d (dkC x sm nm lo c ct)) := by
  intro st I h
  have n := (Now.init h).emp
  refine w_disk_Disk_count ?_
  refine ⟨_, ldv1 n.cells rfl, fun K hK => ⟨fun _ => ⟨_, ldv1 n.cells rfl, hK _ _ ?_⟩, fun h => by cases h⟩⟩
  refine ⟨_, n.cells, by simp [dkC], ?_⟩
  rintro st8 rfl
  have n2 := n.set (dkC x sm nm lo c ct)
  have e : (dkC x sm nm lo c ct).set 6 (.bool ((-1 : Int) == 0)) = dkC x sm nm lo c ct := rfl
  rw [e]
  refine ⟨false, ldv1 n2.cells rfl, fun h => (by cases h), fun _ => ⟨-1, ldv1 n2.cells rfl, ?_⟩⟩
  exact br (fun h => by omega) fun _ => (n2.toPand rfl).unemp
theorem elemsOf_lst (st : St) (sz : Nat) (l : List V) (c : Cap) : elemsOf st sz (.lst sz l c) = some l := by simp [elemsOf]
theorem block_spec {d : Nat} {x : Dk} {sm nm : Nat} {lo : List V} {c ct : Cap} {m : List (V × V)} (n : Int) (hm : MapOk x m) (hs : x.size ≤ 60000) {st : St} (hc : st.cells d = some (dkC x sm nm lo c ct)) (hn : st.maps nm = some m) :
    RCall Tryz.prog F_disk_Disk_block [.ptr d 0, .map nm, .int .i64 n] st fun r s => ∃ c', r = .ret (.lst 1 (By (x.block n)) c') ∧ Own st s c' := by
  refine w_disk_Disk_block ?_
  refine (has_spec' rfl n hc).mono ?_
  rintro _ st5 ⟨rfl, rfl⟩
  have hb : x.block n = if decide (0 ≤ n ∧ n < x.blocks) = true then x.now n else [] := rfl
  refine ⟨_, rfl, fun h => ⟨_, ?_, Own.nil (.refl _)⟩, fun h => ?_⟩
  · rw [hb, if_neg (by simp only [Bool.not_eq_true'] at h; rw [h]; decide)]; rfl
  rw [hb, if_pos (by simpa only [Bool.not_eq_false'] using h)]
  refine ⟨_, ldv1 hc rfl, x.size, x.size, rfl, rfl, Nat.le_refl _, by omega, ?_⟩
  intro st10 h10
  have e1 : (List.replicate x.size [V.int .u8 0]).flatten = By (List.replicate x.size 0) := by
    rw [← By_rep]; generalize x.size = k
    induction k with
    | zero => rfl
    | succ k ih => rw [List.replicate_succ, List.flatten_cons, ih]; rfl
  rw [e1] at h10
  have c10 : st10.cells st5.next = some (By (List.replicate x.size 0)) := by rw [h10]; exact cells_new _ _
  have m10 : st10.maps nm = some m := by rw [h10]; exact hn
  have l10 : st5.le st10 := by rw [h10]; exact (St.le.refl _).new _
  have fin : ∀ l : List UInt8, l.length ≤ x.size → x.now n = l ++ List.replicate (x.size - l.length) 0 →
      ∃ (l13 cs14 : List V), elemsOf st10 1 (V.lst 1 (By l) .unk) = some l13 ∧ st10.cells st5.next = some cs14 ∧ 0 + (min l13.length x.size) * 1 ≤ cs14.length ∧ ∀ st15 : St, st15 = st10.setC st5.next (repl cs14 0 (flat (l13.take (min l13.length x.size)))) → ∃ cs16 l17 : List V, st15.cells st5.next = some cs16 ∧ frzL false 1 0 x.size x.size cs16 = some l17 ∧ ∀ st18 : St, st18 = (st15.killC st5.next).newT → ∃ c', Res.ret (V.lst 1 l17 (Cap.tail st15.next)) = .ret (.lst 1 (By (x.now n)) c') ∧ Own st5 st18 c' := by
    intro l hl he
    refine ⟨By l, _, elemsOf_lst _ _ _ _, c10, by simp; omega, ?_⟩
    intro st15 h15
    have e2 : repl (By (List.replicate x.size 0)) 0 (flat ((By l).take (min (By l).length x.size))) = By (x.now n ++ []) := by
      rw [By_length, Nat.min_eq_left hl, By_take, By_flat, List.take_length, he, List.append_nil, By_append]
      simp only [repl, List.take_zero, List.nil_append, By_length, Nat.zero_add, By_drop, List.drop_replicate]
    rw [e2] at h15
    have c15 : st15.cells st5.next = some (By (x.now n ++ [])) := by rw [h15]; exact cells_set c10
    have hlen : (x.now n).length = x.size := by rw [he]; simp; omega
    have hf := frz_By (l := x.now n) (sp := []) (cap := x.size) (by simp [hlen])
    rw [hlen] at hf
    refine ⟨_, _, c15, hf, ?_⟩
    rintro st18 rfl
    exact ⟨_, rfl, Own.frz (by rw [h15]; exact l10.set (Nat.le_refl _) _) (Nat.le_refl _)⟩
  rcases hm n with ⟨h1, h2⟩ | ⟨h1, h2⟩
  · refine ⟨By [], .nil, false, by simp [St.mlook, m10, h1], ?_⟩
    obtain ⟨a, b, x1, x2, x3, x4⟩ := fin [] (by simp) (by rw [h2]; simp)
    exact ⟨a, b, x1, x2, x3, x4⟩
  · refine ⟨By (x.now n), .unk, true, by simp [St.mlook, m10, h1], ?_⟩
    exact fin (x.now n) (by omega) (by simp [h2])
theorem evs_append (l : List Ev) (e : Ev) : Evs (l ++ [e]) = Evs l ++ [e.v] := by simp [Evs]
theorem repl_head (k n : Int) (b : List UInt8) (v : V) : repl ([V.int .i64 k, .int .i64 n] ++ List.replicate 12 (V.int .u8 0) ++ [v]) 2 (By (b.take 12)) = [.int .i64 k, .int .i64 n] ++ By (head12 b) ++ [v] := by
  have h12 : (b.take 12).length ≤ 12 := by simp; omega
  rw [By_rep, repl, head12, By_append]
  have e : (12 - b.length) = 12 - (b.take 12).length := by simp; omega
  rw [e]
  generalize b.take 12 = h at h12 ⊢
  rw [show ([V.int .i64 k, .int .i64 n] ++ By (List.replicate 12 0) ++ [v]) = [V.int .i64 k, .int .i64 n] ++ (By (List.replicate 12 0) ++ [v]) by simp]
  rw [show ∀ l : List V, List.take 2 ([V.int .i64 k, .int .i64 n] ++ l) = [V.int .i64 k, .int .i64 n] from fun l => rfl, List.drop_append, List.drop_of_length_le (by simp), By_length]
  simp only [List.length_cons, List.length_nil, Nat.zero_add, List.nil_append, Nat.reduceAdd, Nat.add_sub_cancel_left]
  rw [List.drop_append_of_le_length (by simpa using h12), By_drop, List.drop_replicate]
  simp only [List.append_assoc]
theorem note_spec {d : Nat} {kind n : Int} {b body : List UInt8} {c4 c5 ct : Cap} {cs : List V} {tr : List Ev} (h7 : cs[7]? = some (.lst 15 (Evs tr) ct)) (ht : tr.length ≤ 2 ^ 40) :
    Does Tryz.prog F_disk_Disk_note [.ptr d 0, .int .i64 kind, .int .i64 n, .lst 1 (By b) c4, .lst 1 (By body) c5] (cellA d cs * capA ct)
      fun r => pand (r = .ret (.tup [])) (ex fun ct' => cellA d (cs.set 7 (.lst 15 (Evs (tr ++ [⟨kind, n, head12 b, body⟩])) ct')) * capA ct') := by
  intro st I h
  have n0 := Now.init h
  have hl7 : 7 < cs.length := (List.getElem?_eq_some_iff.1 h7).1
  refine w_disk_Disk_note ?_
  intro st6 h6
  have n6 := n0.newC ([(V.int .i64 0), (V.int .i64 0)] ++ List.replicate 12 (V.int .u8 0) ++ [(V.lst 1 ([] : List V) Cap.nil)])
  rw [← h6] at n6
  refine ⟨by simp, rfl, _, n6.cells, by simp, ?_⟩
  intro st8 h8
  have n8 := n6.set ([(V.int .i64 kind), (V.int .i64 n)] ++ List.replicate 12 (V.int .u8 0) ++ [(V.lst 1 (By body) c5)])
  rw [repl_all' (by simp)] at h8
  rw [← h8] at n8
  refine ⟨min b.length 12, by rw [By_length]; omega, by rw [By_length]; omega, (By b).take (min b.length 12), _, elemsOf_lst _ _ _ _, n8.cells, by simp; omega, ?_⟩
  intro st12 h12
  have e1 : flat (((By b).take (min b.length 12)).take (min ((By b).take (min b.length 12)).length 12)) = By (b.take 12) := by
    rw [By_take, By_length, By_take, By_flat]
    congr 1
    rw [List.take_take, List.length_take]
    rcases Nat.le_total b.length 12 with hb | hb
    · rw [List.take_of_length_le (by omega), List.take_of_length_le hb]
    · congr 1; omega
  rw [e1, repl_head] at h12
  have n12 := n8.set ([V.int .i64 kind, .int .i64 n] ++ By (head12 b) ++ [(V.lst 1 (By body) c5)])
  rw [← h12] at n12
  have e2 : ([V.int .i64 kind, .int .i64 n] ++ By (head12 b) ++ [(V.lst 1 (By body) c5)]).length = 15 := by simp [head12_length]
  have n13 : Now st I (cellA d cs * (capA ct * cellA st.next ([V.int .i64 kind, .int .i64 n] ++ By (head12 b) ++ [(V.lst 1 (By body) c5)]))) st12 := n12.perm (by ac_rfl)
  have n14 : Now st I (capA ct * (cellA d cs * cellA st.next ([V.int .i64 kind, .int .i64 n] ++ By (head12 b) ++ [(V.lst 1 (By body) c5)]))) st12 := n12.perm (by ac_rfl)
  refine ⟨_, _, ldv1 n13.cells h7, _, ldvg n12.cells e2, ?_, ⟨n14.can, by rw [Evs, List.length_map]; omega⟩, ?_⟩
  · intro v hv
    rw [List.mem_singleton] at hv
    subst hv
    exact ⟨e2, rfl⟩
  intro c15 st16 ha
  have n16 := n14.app ha
  have n17 : Now st I (cellA d cs * (capA c15 * cellA st.next ([V.int .i64 kind, .int .i64 n] ++ By (head12 b) ++ [(V.lst 1 (By body) c5)]))) st16 := n16.perm (by ac_rfl)
  refine ⟨_, n17.cells, hl7, ?_⟩
  intro st18 h18
  have e3 : List.map V.wk1 ([V.int .i64 kind, .int .i64 n] ++ By (head12 b) ++ [(V.lst 1 (By body) c5)]) = Ev.cells ⟨kind, n, head12 b, body⟩ := by
    rw [List.map_append, List.map_append, By_wk1]; rfl
  rw [e3] at h18
  have n18 := n17.set (cs.set 7 (.lst 15 (Evs (tr ++ [⟨kind, n, head12 b, body⟩])) c15))
  rw [evs_append] at n18 ⊢
  rw [show V.agg (Ev.cells ⟨kind, n, head12 b, body⟩) = Ev.v ⟨kind, n, head12 b, body⟩ from rfl] at h18
  rw [← h18] at n18
  have n19 := (n18.perm (B := cellA st.next ([V.int .i64 kind, .int .i64 n] ++ By (head12 b) ++ [(V.lst 1 (By body) c5)]) * ((cellA d (cs.set 7 (.lst 15 (Evs tr ++ [Ev.v ⟨kind, n, head12 b, body⟩]) c15)) * capA c15))) (by ac_rfl)).drop
  exact (Now.toPand rfl (Now.toEx c15 n19.emp)).unemp
theorem Read_spec {d : Nat} {x : Dk} (n : Int) (hs : x.size ≤ 60000) (ht : x.trace.length ≤ 2 ^ 40) :
    Does Tryz.prog F_disk_Disk_Read [.ptr d 0, .int .i64 n] (DkA d x) fun r => ex fun c => pand (r = .ret (.lst 1 (By (x.block n)) c)) (DkA d (x.read n)) := by
  intro st I h
  refine w_disk_Disk_Read ?_
  obtain ⟨sm, nm, lo, c, ct, m, hm, hl, n1⟩ := dkOpen (Now.init h).emp
  refine count_spec.ret n1 ?_
  intro s2 n2
  have n2' : Now st I (mapA nm m * (cellA d (dkC x sm nm lo c ct) * (capA c * (capA ct * emp)))) s2 := n2.perm (by ac_rfl)
  refine ⟨rfl, _, ldv1 n2.cells rfl, ?_⟩
  refine (block_spec n hm hs n2.cells n2'.maps).mono ?_
  rintro _ s3 ⟨c', rfl, ho⟩
  refine ⟨_, _, rfl, ?_⟩
  have n3 : Now st I (cellA d (dkC x sm nm lo c ct) * capA ct * (mapA nm m * (capA c * emp))) s3 := (n2.le ho.le).perm (by ac_rfl)
  refine (note_spec (body := []) rfl ht).ret n3 ?_
  intro s4 n4'
  obtain ⟨ct', n4⟩ := n4'.ex
  refine ⟨rfl, ?_⟩
  have n5 := dkClose (x := x.read n) (R := emp) (sm := sm) (lo := lo) hm (by simp only [Dk.read, List.length_append]; omega) (n4.perm (B := cellA d (dkC (x.read n) sm nm lo c ct') * (mapA nm m * (capA c * (capA ct' * emp)))) (by rw [show (dkC x sm nm lo c ct).set 7 (.lst 15 (Evs (x.trace ++ [⟨1, n, head12 (x.block n), []⟩])) ct') = dkC (x.read n) sm nm lo c ct' from rfl]; ac_rfl))
  exact (Now.toEx c' (Now.toPand rfl n5)).unemp
theorem mapOk_write {x : Dk} {m : List (V × V)} (hm : MapOk x m) {n : Int} (hn : x.has n = true) (b : List UInt8) :
    (lookM m .i64 n).isSome = true ∧ MapOk (x.write n b) (updM m .i64 n (.lst 1 (By (fitL x.size b)) .unk)) := by
  have h1 : (lookM m .i64 n).isSome = true := by rcases hm n with h | h <;> rw [h.1] <;> rfl
  refine ⟨h1, fun i => ?_⟩
  rw [lookM_upd h1]
  by_cases hi : i = n
  · right
    have e : (x.write n b).now i = fitL x.size b := if_pos ⟨hn, hi⟩
    rw [if_pos hi, e]
    exact ⟨rfl, fitL_length _ _⟩
  · have e : (x.write n b).now i = x.now i := if_neg fun h => hi h.2
    rw [if_neg hi, e]
    exact hm i
theorem mapOk_out {x : Dk} {m : List (V × V)} (hm : MapOk x m) {n : Int} (hn : x.has n = false) (b : List UInt8) : MapOk (x.write n b) m := by
  intro i
  have e : (x.write n b).now i = x.now i := if_neg fun h => by rw [hn] at h; cases h.1
  rw [e]; exact hm i
theorem new_fit (size : Nat) (b : List UInt8) : repl (By (List.replicate size 0)) 0 (flat ((By b).take (min (By b).length size))) = By (fitL size b) := by
  rw [By_length, By_take, By_flat, fitL, By_append]
  simp only [repl, List.take_zero, List.nil_append, By_length, Nat.zero_add, By_drop, List.drop_replicate, List.length_take]
  rcases Nat.le_total b.length size with h | h
  · rw [Nat.min_eq_left h, List.take_of_length_le (Nat.le_refl _), List.take_of_length_le h, Nat.min_self]
  · rw [Nat.min_eq_right h, Nat.min_eq_left h]
    congr 3; omega
theorem zeros_flat (k : Nat) : (List.replicate k [V.int .u8 0]).flatten = By (List.replicate k 0) := by
  rw [← By_rep]
  induction k with
  | zero => rfl
  | succ k ih => rw [List.replicate_succ, List.flatten_cons, ih]; rfl
theorem Write_spec {d : Nat} {x : Dk} (n : Int) (b : List UInt8) (c : Cap) (hs : x.size ≤ 60000) (ht : x.trace.length ≤ 2 ^ 40) :
    Does Tryz.prog F_disk_Disk_Write [.ptr d 0, .int .i64 n, .lst 1 (By b) c] (DkA d x) fun r => pand (r = .ret (.tup [])) (DkA d (x.write n b)) := by
  intro st I h
  refine w_disk_Disk_Write ?_
  obtain ⟨sm, nm, lo, cl, ct, m, hm, hl, n1⟩ := dkOpen (Now.init h).emp
  refine count_spec.ret n1 ?_
  intro s5 n5
  refine ⟨rfl, _, ldv1 n5.cells rfl, x.size, x.size, rfl, rfl, Nat.le_refl _, by omega, ?_⟩
  rw [zeros_flat]
  intro s9 h9
  have n9 := n5.newC (By (List.replicate x.size 0))
  rw [← h9] at n9
  refine ⟨By b, _, elemsOf_lst _ _ _ _, n9.cells, by simp; omega, ?_⟩
  rw [new_fit]
  intro s12 h12
  have n12 := n9.set (By (fitL x.size b))
  rw [← h12] at n12
  have hf := frz_By (l := fitL x.size b) (sp := []) (cap := x.size) (by simp [fitL_length])
  rw [fitL_length, List.append_nil] at hf
  refine ⟨_, _, n12.cells, hf, ?_⟩
  intro s15 h15
  have n15 := n12.frz
  rw [← h15] at n15
  refine (Clone_spec (By (fitL x.size b)) _ (by rw [By_length, fitL_length]; omega) s15).mono ?_
  rintro _ s17 ⟨c17, rfl, ho⟩
  refine ⟨_, _, rfl, ?_⟩
  have n17 : Now st I (cellA d (dkC x sm nm lo cl ct) * capA ct * (mapA nm m * (capA cl * emp))) s17 := ((n15.le ho.le).drop).perm (by ac_rfl)
  refine (note_spec (body := fitL x.size b) (tr := x.trace) rfl ht).ret n17 ?_
  intro s20 n20'
  obtain ⟨ct', n20a⟩ := n20'.ex
  have n20 : Now st I (cellA d (dkC ⟨x.blocks, x.size, x.now, x.trace ++ [⟨2, n, head12 (fitL x.size b), fitL x.size b⟩]⟩ sm nm lo cl ct') * (capA ct' * (mapA nm m * (capA cl * emp)))) s20 :=
    n20a.perm (by rw [sep_assoc]; rfl)
  refine ⟨rfl, ?_⟩
  refine (has_spec' rfl n n20.cells).mono ?_
  rintro _ s22 ⟨rfl, rfl⟩
  have hh : x.has n = decide (0 ≤ n ∧ n < x.blocks) := rfl
  rw [← hh]
  refine ⟨_, rfl, fun h1 => ?_, fun h1 => ?_⟩
  · have h2 : x.has n = false := by simpa using h1
    have e : dkC ⟨x.blocks, x.size, x.now, x.trace ++ [⟨2, n, head12 (fitL x.size b), fitL x.size b⟩]⟩ sm nm lo cl ct' = dkC (x.write n b) sm nm lo cl ct' := rfl
    rw [e] at n20
    have n21 := dkClose (x := x.write n b) (R := emp) (mapOk_out hm h2 b) (by simp only [Dk.write, List.length_append]; omega) (n20.perm (B := cellA d (dkC (x.write n b) sm nm lo cl ct') * (mapA nm m * (capA cl * (capA ct' * emp)))) (by ac_rfl))
    exact (Now.toPand rfl n21).unemp
  · have h2 : x.has n = true := by simpa using h1
    obtain ⟨h3, h4⟩ := mapOk_write hm h2 b
    have n21 := n20.perm (B := mapA nm m * (cellA d (dkC ⟨x.blocks, x.size, x.now, x.trace ++ [⟨2, n, head12 (fitL x.size b), fitL x.size b⟩]⟩ sm nm lo cl ct') * (capA ct' * (capA cl * emp)))) (by ac_rfl)
    refine ⟨nm, ldv1 n20.cells rfl, m, n21.maps, h3, ?_⟩
    intro s26 h26
    have n26 := n21.setM (updM m .i64 n (.lst 1 (By (fitL x.size b)) .unk))
    rw [← h26] at n26
    have n27 := n26.perm (B := cellA d (dkC ⟨x.blocks, x.size, x.now, x.trace ++ [⟨2, n, head12 (fitL x.size b), fitL x.size b⟩]⟩ sm nm lo cl ct') * (mapA nm (updM m .i64 n (.lst 1 (By (fitL x.size b)) .unk)) * (capA ct' * (capA cl * emp)))) (by ac_rfl)
    have n28 := n26.perm (B := capA cl * (cellA d (dkC ⟨x.blocks, x.size, x.now, x.trace ++ [⟨2, n, head12 (fitL x.size b), fitL x.size b⟩]⟩ sm nm lo cl ct') * (mapA nm (updM m .i64 n (.lst 1 (By (fitL x.size b)) .unk)) * (capA ct' * emp)))) (by ac_rfl)
    refine ⟨lo, cl, ldv1 n27.cells rfl, ⟨n28.can, by omega⟩, ?_⟩
    intro c28 s29 ha
    have n29 := (n28.app ha).perm (B := cellA d (dkC ⟨x.blocks, x.size, x.now, x.trace ++ [⟨2, n, head12 (fitL x.size b), fitL x.size b⟩]⟩ sm nm lo cl ct') * (mapA nm (updM m .i64 n (.lst 1 (By (fitL x.size b)) .unk)) * (capA c28 * (capA ct' * emp)))) (by ac_rfl)
    refine ⟨_, n29.cells, by simp [dkC], ?_⟩
    intro s31 h31
    have n31 := n29.set (dkC (x.write n b) sm nm (lo ++ [.agg [.int .i64 n, .lst 1 (By (fitL x.size b)) .unk]]) c28 ct')
    have e : (dkC ⟨x.blocks, x.size, x.now, x.trace ++ [⟨2, n, head12 (fitL x.size b), fitL x.size b⟩]⟩ sm nm lo cl ct').set 4 (.lst 2 (lo ++ [.agg [.int .i64 n, .lst 1 (By (fitL x.size b)) .unk]]) c28) = dkC (x.write n b) sm nm (lo ++ [.agg [.int .i64 n, .lst 1 (By (fitL x.size b)) .unk]]) c28 ct' := rfl
    rw [e] at h31
    rw [← h31] at n31
    have n32 := dkClose (x := x.write n b) (R := emp) h4 (by simp only [Dk.write, List.length_append, List.length_cons, List.length_nil]; omega) n31
    exact (Now.toPand rfl n32).unemp
def EvOk (e : Ev) : Prop := e.head.length = 12 ∧ e.body.length ≤ 60000
theorem ev_length {e : Ev} (h : EvOk e) : e.cells.length = 15 := by simp [Ev.cells, h.1]
theorem Trace_spec {d : Nat} {x : Dk} (ho : ∀ e ∈ x.trace, EvOk e) (ht : x.trace.length ≤ 2 ^ 40) :
    Does Tryz.prog F_disk_Disk_Trace [.ptr d 0] (DkA d x) fun r => ex fun c => pand (r = .ret (.lst 15 (Evs x.trace) c)) (DkA d x) := by
  intro st I h
  have n0 := (Now.init h).emp
  obtain ⟨sm, nm, lo, cl, ct, m, hm, hl, n1⟩ := dkOpen n0
  refine w_disk_Disk_Trace ?_
  refine ⟨_, _, ldv1 n1.cells rfl, ?_⟩
  refine ⟨fun n out c i s => ∃ k : Nat, i = k ∧ k ≤ x.trace.length ∧ n = x.trace.length - k ∧ out = Evs (x.trace.take k) ∧ Own st s c, ⟨x.trace.length, 0, rfl, by omega, rfl, rfl, Own.nil (.refl st)⟩, ?_⟩
  rintro _ _ c3 _ s7 ⟨k, rfl, hk, rfl, rfl, h7⟩
  have hlen : (Evs x.trace).length = x.trace.length := by simp [Evs]
  rw [hlen]
  refine br (fun hlt => ?_) fun hge => ?_
  · have hk' : k < x.trace.length := by omega
    have he := ho _ (List.getElem_mem hk')
    have hg : (Evs x.trace)[k]? = some (.agg (x.trace[k].cells)) := by simp [Evs, hk', Ev.v]
    have hf : fldV x.trace[k].cells 0 15 true = some (.agg x.trace[k].cells) := by
      rw [fldV, if_pos (by rw [ev_length he]; decide), List.drop_zero, List.take_of_length_le (by rw [ev_length he]; decide)]; rfl
    refine ⟨k, rfl, _, hg, _, hf, ?_⟩
    intro s11 h11
    have c11 : s11.cells s7.next = some ([(V.int .i64 0), (V.int .i64 0)] ++ List.replicate 12 (V.int .u8 0) ++ [(V.lst 1 ([] : List V) Cap.nil)]) := by rw [h11]; exact cells_new _ _
    refine ⟨ev_length he, rfl, _, c11, by decide, ?_⟩
    intro s13 h13
    rw [repl_all' (by rw [ev_length he]; decide)] at h13
    have c13 : s13.cells s7.next = some x.trace[k].cells := by rw [h13]; exact cells_set c11
    have hd : x.trace[k].cells = ([.int .i64 x.trace[k].kind, .int .i64 x.trace[k].at_] ++ By x.trace[k].head) ++ [.lst 1 (By x.trace[k].body) .unk] := rfl
    have h14 : x.trace[k].cells[14]? = some (.lst 1 (By x.trace[k].body) .unk) := by
      rw [hd, List.getElem?_append_right (by simp [he.1])]; simp [he.1]
    refine ⟨_, _, ldv1 c13 h14, ?_⟩
    refine (Clone_spec (By x.trace[k].body) _ (by have := he.2; rw [By_length]; omega) s13).mono ?_
    rintro _ s16 ⟨c17, rfl, h17⟩
    refine ⟨_, _, rfl, ?_⟩
    have c16 : s16.cells s7.next = some x.trace[k].cells := h17.le.getC c13
    refine ⟨_, c16, by rw [ev_length he]; decide, ?_⟩
    intro s19 h19
    have c19 : s19.cells s7.next = some (x.trace[k].cells.set 14 (.lst 1 (By x.trace[k].body) c17)) := by rw [h19]; exact cells_set c16
    have o19 : Own st s19 c3 := by
      refine h7.step ?_
      rw [h19]
      refine St.le.set ?_ (Nat.le_refl _) _
      refine St.le.trans ?_ h17.le
      rw [h13]
      refine St.le.set ?_ (Nat.le_refl _) _
      rw [h11]; exact (St.le.refl _).new _
    have e19 : x.trace[k].cells.set 14 (.lst 1 (By x.trace[k].body) c17) = ([.int .i64 x.trace[k].kind, .int .i64 x.trace[k].at_] ++ By x.trace[k].head) ++ [.lst 1 (By x.trace[k].body) c17] := by
      rw [hd, List.set_append_right _ _ (by simp [he.1])]; simp [he.1]
    refine ⟨_, ldvg c19 (by rw [List.length_set, ev_length he]), ?_, o19.has (by have : (Evs (x.trace.take k)).length ≤ k := (by simp [Evs]; omega); omega), ?_⟩
    · intro v hv
      rw [List.mem_singleton] at hv
      subst hv
      exact ⟨by show (List.set _ _ _).length = 15; rw [List.length_set, ev_length he], rfl⟩
    intro c21 s22 ha
    refine ⟨x.trace.length - (k + 1), by omega, k + 1, by rw [w64 (by omega)]; omega, by omega, rfl, ?_, o19.app ha⟩
    rw [List.take_succ_eq_append_getElem hk', evs_append, e19, List.map_append, List.map_append, By_wk1]
    rfl
  · rw [List.take_of_length_le (by omega)]
    have n2 := n0.le h7.le
    exact (Now.toEx c3 (Now.toPand rfl n2)).unemp
end Go.Proofs.YtffenelcgjdbiaaGreatDoor
namespace Go.Proofs.YtffenelcgjdbiaaGreatDoor
open Go Go.Sim
set_option maxRecDepth 100000
def retO (o : Option (List UInt8)) (c : Cap) : Res := .ret (.tup [.lst 1 (By (o.getD [])) c, .bool o.isSome])
theorem dkLen {st s : St} {I : Nat → Prop} {d : Nat} {x : Dk} {R : Asn} (h : Now st I (DkA d x * R) s) (n : Int) : (x.now n).length = x.size := by
  obtain ⟨_, _, _, _, _, m, hm, _, _⟩ := dkOpen h
  rcases hm n with h | h
  · rw [h.2, List.length_replicate]
  · exact h.2
theorem dkLenB {st s : St} {I : Nat → Prop} {d : Nat} {x : Dk} {R : Asn} (h : Now st I (DkA d x * R) s) (n : Int) : (x.block n).length ≤ x.size := by
  unfold Dk.block
  split
  · rw [dkLen h]; exact Nat.le_refl _
  · exact Nat.zero_le _
structure Pn where
  dk : Dk
  key : List UInt8
  boot : Nat
  seq : Nat
def Pn.write (x : Pn) (n : Int) (plain : List UInt8) : Pn × Bool :=
  match sealO x.key x.boot x.seq plain x.dk.size with
  | some b => ({ x with seq := x.seq + 1, dk := x.dk.write n b }, true)
  | none => (x, false)
def Pn.readO (x : Pn) (n : Int) : Option (List UInt8) := (openL x.key (x.dk.block n)).map (·.1)
def Pn.read (x : Pn) (n : Int) : Pn := { x with dk := x.dk.read n }
def pnC (d : Nat) (x : Pn) : List V := [.ptr d 0] ++ By x.key ++ [.int .u32 x.boot, .int .u64 x.seq]
structure PnOk (x : Pn) : Prop where
  key : x.key.length = 32
  boot : x.boot < 2 ^ 32
  seq : x.seq ≤ 2 ^ 40
  size : x.dk.size ≤ 60000
  trace : x.dk.trace.length ≤ 2 ^ 40
def PnA (p d : Nat) (x : Pn) : Asn := cellA p (pnC d x) * DkA d x.dk
theorem pnC_length {d : Nat} {x : Pn} (h : x.key.length = 32) : (pnC d x).length = 35 := by simp [pnC, h]
theorem pnC_key {d : Nat} {x : Pn} (h : x.key.length = 32) {st : St} {p : Nat} (hc : st.cells p = some (pnC d x)) : st.ldv p 1 32 true = some (.agg (By x.key)) := by
  rw [ldvp hc (by rw [pnC_length h]; decide)]
  congr 2
  show (By x.key ++ [V.int .u32 x.boot, .int .u64 x.seq]).take 32 = _
  rw [List.take_left' (by simp [h])]
theorem pnC_33 {d : Nat} {x : Pn} (h : x.key.length = 32) : (pnC d x)[33]? = some (.int .u32 x.boot) := by
  rw [pnC, List.getElem?_append_right (by simp [h])]; simp [h]
theorem pnC_34 {d : Nat} {x : Pn} (h : x.key.length = 32) : (pnC d x)[34]? = some (.int .u64 x.seq) := by
  rw [pnC, List.getElem?_append_right (by simp [h])]; simp [h]
theorem repl_mid {a b c v : List V} {k : Nat} (hk : a.length = k) (hv : v.length = b.length) : repl (a ++ (b ++ c)) k v = a ++ (v ++ c) := by
  subst hk
  unfold repl
  rw [List.take_left' rfl, ← List.append_assoc a b c, List.drop_left' (by simp [hv])]
  simp
theorem PNew_spec (d : Nat) (key : List UInt8) (boot : Nat) (hk : key.length = 32) (st : St) : RCall Tryz.prog F_pen_New [.ptr d 0, .agg (By key), .int .u32 boot] st fun r s => ∃ p, r = .ret (.ptr p 0) ∧
    ∀ st0 I R, Now st0 I R st → Now st0 I (cellA p ([.ptr d 0] ++ By key ++ [.int .u32 boot, .int .u64 0]) * R) s := by
  refine w_pen_New ?_
  intro st4 h4
  have c4 : st4.cells st.next = some (By key) := by rw [h4]; exact cells_new _ _
  refine ⟨_, ldvg c4 (by simp [hk]), [.ptr d 0] ++ By key ++ [.int .u32 boot, .int .u64 0], ?_, ?_⟩
  · rw [fillV, if_pos ⟨rfl, rfl, by simp⟩, show ([V.nilp] ++ List.replicate 32 (V.int .u8 0) ++ [(V.int .u32 0), (V.int .u64 0)]) = [] ++ ([V.nilp] ++ (List.replicate 32 (V.int .u8 0) ++ [(V.int .u32 0), (V.int .u64 0)])) from rfl,
      repl_mid (a := []) (b := [V.nilp]) (k := 0) (v := (V.ptr d 0).cells) rfl rfl]
    rw [fillV, if_pos ⟨by simp [V.cells, hk], rfl, by simp [V.cells]⟩]
    rw [show ([] ++ ((V.ptr d 0).cells ++ (List.replicate 32 (V.int .u8 0) ++ [(V.int .u32 0), (V.int .u64 0)]))) = [V.ptr d 0] ++ (List.replicate 32 (V.int .u8 0) ++ [(V.int .u32 0), (V.int .u64 0)]) from rfl,
      repl_mid (a := [V.ptr d 0]) (b := List.replicate 32 (V.int .u8 0)) (k := 1) rfl (by simp [V.cells, hk])]
    rw [fillV, if_pos ⟨rfl, rfl, by simp [V.cells, hk]⟩]
    rw [show [V.ptr d 0] ++ ((V.agg (By key)).cells ++ [(V.int .u32 0), (V.int .u64 0)]) = ([V.ptr d 0] ++ By key) ++ ([V.int .u32 0] ++ [V.int .u64 0]) by simp [V.cells],
      repl_mid (b := [V.int .u32 0]) (k := 33) (v := (V.int .u32 boot).cells) (by simp [hk]) rfl]
    simp [fillV, V.cells]
  intro st7 h7
  refine ⟨_, rfl, fun st0 I R n => ?_⟩
  rw [h7]
  exact (n.le (by rw [h4]; exact (St.le.refl _).new _)).newC _
theorem PWrite_spec {p d : Nat} {x : Pn} (n : Int) (plain : List UInt8) (c : Cap) (ok : PnOk x) :
    Does Tryz.prog F_pen_Pen_Write [.ptr p 0, .int .i64 n, .lst 1 (By plain) c] (PnA p d x) fun r => pand (r = .ret (.bool (x.write n plain).2)) (PnA p d (x.write n plain).1) := by
  intro st I h
  obtain ⟨hk, hb, hs, hz, ht⟩ := ok
  have n0 := (Now.init h).emp.perm (B := cellA p (pnC d x) * (DkA d x.dk * emp)) (by simp only [PnA, sep_assoc])
  refine w_pen_Pen_Write ?_
  refine ⟨_, pnC_key hk n0.cells, _, ldv1 n0.cells (pnC_33 hk), _, ldv1 n0.cells (pnC_34 hk), _, ldv1 n0.cells rfl, ?_⟩
  refine Size_spec.ret (R := cellA p (pnC d x) * emp) (n0.perm (by ac_rfl)) ?_
  intro s9 n9'
  have n9 := n9'.perm (B := cellA p (pnC d x) * (DkA d x.dk * emp)) (by ac_rfl)
  refine ⟨_, rfl, pnC_key hk n9.cells, ldv1 n9.cells (pnC_33 hk), ldv1 n9.cells (pnC_34 hk), ?_⟩
  refine (Seal_spec x.key plain x.boot x.seq x.dk.size c hk hb (by omega) (by omega) s9).mono ?_
  intro r s12 hr
  unfold RetO at hr
  cases he : sealO x.key x.boot x.seq plain x.dk.size with
  | none =>
    rw [he] at hr
    obtain ⟨rfl, hle⟩ := hr
    refine ⟨_, _, _, rfl, fun _ => ?_, fun h => by cases h⟩
    have e : x.write n plain = (x, false) := by unfold Pn.write; rw [he]
    rw [e]
    have n12 := (n9.le hle).perm (B := PnA p d x * emp) (by simp only [PnA, sep_assoc])
    exact (Now.toPand rfl n12).unemp
  | some b =>
    rw [he] at hr
    obtain ⟨c13, rfl, ho⟩ := hr
    have e : x.write n plain = ({ x with seq := x.seq + 1, dk := x.dk.write n b }, true) := by unfold Pn.write; rw [he]
    rw [e]
    refine ⟨_, _, _, rfl, fun h => (by cases h), fun _ => ?_⟩
    have n12 := n9.le ho.le
    refine ⟨_, ldv1 n12.cells (pnC_34 hk), _, n12.cells, by rw [pnC_length hk]; decide, ?_⟩
    intro s17 h17
    have e2 : (pnC d x).set 34 (.int .u64 (IntKind.u64.wrap ((x.seq : Int) + 1))) = pnC d { x with seq := x.seq + 1, dk := x.dk.write n b } := by
      rw [pnC, List.set_append_right _ _ (by simp [hk]), wrap_u64 (by omega) (by omega)]
      simp [hk, pnC]
    rw [e2] at h17
    have n17 := n12.set (pnC d { x with seq := x.seq + 1, dk := x.dk.write n b })
    rw [← h17] at n17
    refine ⟨_, ldv1 n17.cells rfl, ?_⟩
    refine (Write_spec n b c13 hz ht).ret (R := cellA p (pnC d { x with seq := x.seq + 1, dk := x.dk.write n b }) * emp) (n17.perm (by ac_rfl)) ?_
    intro s20 n20
    refine ⟨rfl, ?_⟩
    have n21 := n20.perm (B := PnA p d { x with seq := x.seq + 1, dk := x.dk.write n b } * emp) (by simp only [PnA]; ac_rfl)
    exact (Now.toPand rfl n21).unemp
theorem PRead_spec {p d : Nat} {x : Pn} (n : Int) (ok : PnOk x) :
    Does Tryz.prog F_pen_Pen_Read [.ptr p 0, .int .i64 n] (PnA p d x) fun r => ex fun c => pand (r = retO (x.readO n) c) (PnA p d (x.read n)) := by
  intro st I h
  obtain ⟨hk, hb, hs, hz, ht⟩ := ok
  have n0 := (Now.init h).emp.perm (B := cellA p (pnC d x) * (DkA d x.dk * emp)) (by simp only [PnA, sep_assoc])
  refine w_pen_Pen_Read ?_
  refine ⟨_, pnC_key hk n0.cells, _, ldv1 n0.cells rfl, ?_⟩
  have n1 := n0.perm (B := DkA d x.dk * (cellA p (pnC d x) * emp)) (by ac_rfl)
  refine (Read_spec n hz ht).retEx n1 ?_
  intro c s6 n6
  have n6' := n6.perm (B := cellA p (pnC d x) * (DkA d (x.dk.read n) * emp)) (by ac_rfl)
  refine ⟨_, _, rfl, pnC_key hk n6'.cells, ?_⟩
  refine (Open_spec x.key (x.dk.block n) c hk (by have := dkLenB n1 n; omega) s6).mono ?_
  intro r s9 hr
  have ho : x.readO n = (openL x.key (x.dk.block n)).map (·.1) := rfl
  rw [ho]
  have fin : ∀ s', s6.le s' → ∀ c' : Cap, Now st I (PnA p d (x.read n)) s' := fun s' hl c' =>
    ((n6'.le hl).perm (B := PnA p d (x.read n) * emp) (by simp only [PnA, sep_assoc]; rfl)).unemp
  unfold OpenR at hr
  cases he : openL x.key (x.dk.block n) with
  | none =>
    rw [he] at hr
    obtain ⟨rfl, hle⟩ := hr
    exact ⟨_, _, _, _, _, rfl, (Now.toEx Cap.nil (Now.toPand rfl (fin _ hle .nil).emp)).unemp⟩
  | some q =>
    obtain ⟨q, b, t⟩ := q
    rw [he] at hr
    obtain ⟨c', rfl, hle⟩ := hr
    exact ⟨_, _, _, _, _, rfl, (Now.toEx c' (Now.toPand rfl (fin _ hle.le .nil).emp)).unemp⟩
end Go.Proofs.YtffenelcgjdbiaaGreatDoor
namespace Go.Proofs.YtffenelcgjdbiaaGreatDoor
open Go Go.Sim
set_option maxRecDepth 100000
def Plc (l : List (Bool × Bool)) : List V := l.flatMap fun p => [.bool p.1, .bool p.2]
theorem Plc_append (l m : List (Bool × Bool)) : Plc (l ++ m) = Plc l ++ Plc m := by simp [Plc]
theorem Plc_length (l : List (Bool × Bool)) : (Plc l).length = l.length * 2 := by
  induction l with
  | nil => rfl
  | cons p l ih => show ([V.bool p.1, .bool p.2] ++ Plc l).length = _; rw [List.length_append, ih, List.length_cons]; simp; omega
theorem Plc_take (l : List (Bool × Bool)) (k : Nat) : (Plc l).take (k * 2) = Plc (l.take k) := by
  induction l generalizing k with
  | nil => simp [Plc]
  | cons p l ih =>
    cases k with
    | zero => simp [Plc]
    | succ k =>
      show ([V.bool p.1, .bool p.2] ++ Plc l).take _ = [V.bool p.1, .bool p.2] ++ Plc (l.take k)
      rw [← ih, show (k + 1) * 2 = k * 2 + 2 by omega]; rfl
theorem Plc_drop (l : List (Bool × Bool)) (k : Nat) : (Plc l).drop (k * 2) = Plc (l.drop k) := by
  induction l generalizing k with
  | nil => simp [Plc]
  | cons p l ih =>
    cases k with
    | zero => simp
    | succ k =>
      show ([V.bool p.1, .bool p.2] ++ Plc l).drop _ = Plc (l.drop k)
      rw [← ih, show (k + 1) * 2 = k * 2 + 2 by omega]; rfl
theorem Plc_cut {l : List (Bool × Bool)} {k : Nat} (h : k < l.length) : Plc l = Plc (l.take k) ++ ([.bool l[k].1, .bool l[k].2] ++ Plc (l.drop (k + 1))) := by
  conv => lhs; rw [← List.take_append_drop k l, List.drop_eq_getElem_cons h, Plc_append]
  rfl
theorem Plc_set {l : List (Bool × Bool)} {k : Nat} (h : k < l.length) (p : Bool × Bool) : Plc (l.set k p) = Plc (l.take k) ++ ([.bool p.1, .bool p.2] ++ Plc (l.drop (k + 1))) := by
  rw [List.set_eq_take_append_cons_drop, if_pos h, Plc_append]; rfl
theorem Plc_repl {l : List (Bool × Bool)} {k : Nat} (h : k < l.length) (p : Bool × Bool) : repl (Plc l) (k * 2) [.bool p.1, .bool p.2] = Plc (l.set k p) := by
  rw [Plc_cut h, Plc_set h, repl_mid (b := [.bool l[k].1, .bool l[k].2]) (v := [.bool p.1, .bool p.2]) (by rw [Plc_length, List.length_take]; omega) rfl]
theorem Plc_at {l : List (Bool × Bool)} {k : Nat} (h : k < l.length) {st : St} {r : Nat} (hc : st.cells r = some (Plc l)) : st.ldv r (0 + k * 2) 2 true = some (.agg [.bool l[k].1, .bool l[k].2]) := by
  rw [Nat.zero_add, ldvp hc (by rw [Plc_length]; omega), Plc_drop, List.drop_eq_getElem_cons h]; rfl
theorem Plc_get {l : List (Bool × Bool)} {k : Nat} (h : k < l.length) : (Plc l)[k * 2]? = some (.bool l[k].1) ∧ (Plc l)[k * 2 + 1]? = some (.bool l[k].2) := by
  have e : (Plc (l.take k)).length = k * 2 := by rw [Plc_length, List.length_take]; omega
  rw [Plc_cut h]
  constructor
  · rw [List.getElem?_append_right (by omega), e, Nat.sub_self]; rfl
  · rw [List.getElem?_append_right (by omega), e, show k * 2 + 1 - k * 2 = 1 by omega]; rfl
theorem Mul_spec (n : Nat) (hn : n < 2 ^ 32) : Gives Tryz.prog F_math_bits_Mul [.int .u64 1, .int .u64 n] (.tup [.int .u64 0, .int .u64 n]) := by
  intro st
  refine w_math_bits_Mul (w_math_bits_Mul64 ?_)
  have e1 : iand .u64 1 4294967295 = 1 := by decide
  have e2 : iand .u64 (n : Int) 4294967295 = n := by
    rw [show (4294967295 : Int) = ((2 ^ 32 - 1 : Nat) : Int) from rfl, and_64 _ _ (by omega) (by decide), Nat.and_two_pow_sub_one_eq_mod, Nat.mod_eq_of_lt hn]
  have e3 : Int.fdiv (n : Int) (2 ^ 32) = 0 := by rw [fdiv_pow, Nat.div_eq_of_lt hn]; rfl
  have e4 : Int.fdiv (1 : Int) (2 ^ 32) = 0 := by decide
  rw [e1, e2, e3, e4, Int.one_mul, Int.mul_zero, Int.zero_mul, wu64 (n := (n : Int)) (by omega), e3]
  exact ⟨_, _, rfl, rfl, .refl st⟩
theorem flat_one (a b : Bool) (n : Nat) : (List.replicate n [V.bool a, .bool b]).flatten = Plc (List.replicate n (a, b)) := by
  induction n with
  | zero => rfl
  | succ n ih => rw [List.replicate_succ, List.flatten_cons, ih]; rfl
theorem flat_chunks_take (sz : Nat) (n m : Nat) (cs : List V) (h : m ≤ n) : flat ((chunks sz n cs).take m) = cs.take (m * sz) := by
  rw [← flat_chunks]
  congr 1
  induction m generalizing n cs with
  | zero => simp [chunks]
  | succ m ih =>
    cases n with
    | zero => omega
    | succ n => simp only [chunks, List.take_succ_cons]; rw [ih _ _ (by omega)]
theorem Repeat_spec (n : Nat) (h1 : 1 ≤ n) (hn : n ≤ 100000) (c : Cap) (st : St) :
    RCall Tryz.prog F_slices_Repeat_bank_place_bank_place [.lst 2 [.agg [.bool true, .bool false]] c, .int .i64 n] st fun r s => ∃ id, r = .ret (.ref 2 id 0 n n) ∧
      ∀ st0 I R, Now st0 I R st → Now st0 I (cellA id (Plc (List.replicate n (true, false))) * R) s := by
  refine w_slices_Repeat_bank_place_bank_place ?_
  refine br (fun h => by omega) fun _ => ?_
  rw [show (([V.agg [.bool true, .bool false]] : List V).length : Int) = 1 from rfl, wu64 (n := (1 : Int)) (by omega), wu64 (n := (n : Int)) (by omega)]
  refine (Mul_spec n (by omega) st).mono ?_
  rintro _ st3 ⟨rfl, hle⟩
  refine ⟨_, _, rfl, ?_⟩
  intro K hK
  refine br' (fun _ => ?_) fun h => by omega
  refine hK _ _ ?_
  refine br (fun h => by omega) fun _ => ?_
  rw [w64 (n := (n : Int)) (by omega)]
  refine ⟨n, n, rfl, rfl, Nat.le_refl _, by omega, ?_⟩
  rw [flat_one]
  intro st11 h11
  have c11 : st11.cells st3.next = some (Plc (List.replicate n (false, false))) := by rw [h11]; exact cells_new _ _
  refine ⟨_, _, elemsOf_lst _ _ _ _, c11, by rw [Plc_length, List.length_replicate]; simp; omega, ?_⟩
  have e1 : min ([V.agg [.bool true, .bool false]] : List V).length n = 1 := by simp; omega
  rw [e1]
  intro st14 h14
  have lem : ∀ k m : Nat, k + m ≤ n → repl (Plc (List.replicate k (true, false) ++ List.replicate (n - k) (false, false))) (k * 2) (Plc (List.replicate m (true, false))) = Plc (List.replicate (k + m) (true, false) ++ List.replicate (n - (k + m)) (false, false)) := by
    intro k m hkm
    have e0 : List.replicate (n - k) (false, false) = List.replicate m (false, false) ++ List.replicate (n - (k + m)) (false, false) := by rw [List.replicate_append_replicate]; congr 1; omega
    rw [e0, Plc_append, Plc_append, repl_mid (by rw [Plc_length, List.length_replicate]) (by rw [Plc_length, Plc_length]; simp), Plc_append, ← List.replicate_append_replicate (n := k) (m := m), Plc_append, List.append_assoc]
  have h14' : st14 = st11.setC st3.next (Plc (List.replicate 1 (true, false) ++ List.replicate (n - 1) (false, false))) := by
    rw [h14]; congr 1
    have := lem 0 1 (by omega)
    rw [show (0 : Nat) + 1 = 1 from rfl] at this
    rw [← this]; rfl
  clear h14
  refine ⟨fun m i s => ∃ k : Nat, i = k ∧ 1 ≤ k ∧ k ≤ n ∧ m = n - k ∧ s.cells st3.next = some (Plc (List.replicate k (true, false) ++ List.replicate (n - k) (false, false))) ∧
    ∀ st0 I R, Now st0 I R st → Now st0 I (cellA st3.next (Plc (List.replicate k (true, false) ++ List.replicate (n - k) (false, false))) * R) s,
    ⟨n - 1, 1, rfl, Nat.le_refl _, h1, rfl, by rw [h14']; exact cells_set c11, fun st0 I R h0 => ?_⟩, ?_⟩
  · rw [h14']
    refine Now.set (cs := Plc (List.replicate n (false, false))) ?_ _
    rw [h11]
    exact (h0.le hle).newC _
  rintro _ _ st18 ⟨k, rfl, hk1, hk, rfl, hc, hN⟩
  refine br (fun hlt => ?_) fun hge => ?_
  · refine ⟨k, rfl, by omega, k, rfl, by omega, chunks 2 k (Plc (List.replicate k (true, false) ++ List.replicate (n - k) (false, false))), _, ?_, hc, ?_, ?_⟩
    · simp only [elemsOf, if_true, hc, Option.bind_some, List.drop_zero]
      rw [if_pos (by rw [Plc_length]; simp; omega), if_neg (by decide)]
    · rw [if_neg (by omega), chunks_len, Plc_length]; simp; omega
    · intro st23 h23
      rw [chunks_len, if_neg (by omega), flat_chunks_take _ _ _ _ (by omega), Nat.zero_add] at h23
      have e2 : (Plc (List.replicate k (true, false) ++ List.replicate (n - k) (false, false))).take (min k (n - k) * 2) = Plc (List.replicate (min k (n - k)) (true, false)) := by
        rw [Plc_take, List.take_append_of_le_length (by simp; omega), List.take_replicate]
        congr 2; omega
      rw [e2, lem k _ (by omega)] at h23
      rw [chunks_len]
      refine ⟨n - (k + min k (n - k)), by omega, k + min k (n - k), by rw [w64 (by omega)]; omega, by omega, by omega, rfl, by rw [h23]; exact cells_set hc, fun st0 I R h0 => ?_⟩
      rw [h23]
      exact (hN st0 I R h0).set _
  · have hkn : k = n := by omega
    subst hkn
    rw [Nat.sub_self] at hN
    exact ⟨_, rfl, fun st0 I R h0 => (hN st0 I R h0).perm (by simp)⟩
theorem repl_two (a b c d : V) : repl [a, b] 0 [c, d] = [c, d] := rfl
structure Bk where
  pn : Pn
  base : Nat
  l : List (Bool × Bool)
def bkC (p : Nat) (x : Bk) (rid : Nat) : List V := [.ptr p 0, .int .i64 x.base, .ref 2 rid 0 x.l.length x.l.length]
def BkA (b p d : Nat) (x : Bk) : Asn := ex fun rid => cellA b (bkC p x rid) * (cellA rid (Plc x.l) * PnA p d x.pn)
structure BkOk (x : Bk) : Prop where
  pn : PnOk x.pn
  base : x.base ≤ 2 ^ 20
  long : x.l.length ≤ 100000
def Bk.blk (x : Bk) (k : Nat) (second : Bool) : Nat := x.base + 2 * k + (if second then 1 else 0)
def Bk.at' (x : Bk) (k : Nat) : Bool × Bool := x.l.getD k (false, false)
def Bk.cur (x : Bk) (k : Nat) : Nat := x.blk k ((x.at' k).1 != (x.at' k).2)
def Bk.readO (x : Bk) (k : Nat) : Option (List UInt8) := x.pn.readO (x.cur k)
def Bk.read (x : Bk) (k : Nat) : Bk := { x with pn := x.pn.read (x.cur k) }
def Bk.write (x : Bk) (k : Nat) (plain : List UInt8) : Bk × Bool :=
  let q := x.pn.write (x.blk k !(x.at' k).1) plain
  if q.2 then ({ x with pn := q.1, l := x.l.set k ((x.at' k).1, true) }, true) else ({ x with pn := q.1 }, false)
def Bk.commit (x : Bk) : Bk := { x with l := x.l.map fun p => (p.1 != p.2, false) }
theorem bkOpen {st s : St} {I : Nat → Prop} {b p d : Nat} {x : Bk} {R : Asn} (h : Now st I (BkA b p d x * R) s) :
    ∃ rid, Now st I (cellA b (bkC p x rid) * (cellA rid (Plc x.l) * (PnA p d x.pn * R))) s := by
  obtain ⟨rid, n⟩ := h.ex
  exact ⟨rid, n.perm (by simp only [sep_assoc])⟩
theorem bkClose {st s : St} {I : Nat → Prop} {b p d : Nat} {x : Bk} {R : Asn} {rid : Nat} (h : Now st I (cellA b (bkC p x rid) * (cellA rid (Plc x.l) * (PnA p d x.pn * R))) s) : Now st I (BkA b p d x * R) s :=
  Now.toEx rid (h.perm (by simp only [sep_assoc]))
theorem BNew_spec (p base n : Nat) (h1 : 1 ≤ n) (hn : n ≤ 100000) (st : St) : RCall Tryz.prog F_bank_New [.ptr p 0, .int .i64 base, .int .i64 n] st fun r s => ∃ b, r = .ret (.ptr b 0) ∧
    ∀ st0 I d pn R, Now st0 I (PnA p d pn * R) st → Now st0 I (BkA b p d ⟨pn, base, List.replicate n (true, false)⟩ * R) s := by
  refine w_bank_New ?_
  rw [show min (max (n : Int) 0) 100000 = n by omega]
  refine (Repeat_spec n h1 hn _ st).mono ?_
  rintro _ s5 ⟨id, rfl, hN⟩
  refine ⟨_, _, _, _, rfl, ?_⟩
  intro st7 h7
  refine ⟨_, rfl, fun st0 I d pn R h0 => ?_⟩
  have n5 := (hN st0 I _ h0).newC [.ptr p 0, .int .i64 base, .ref 2 id 0 n n]
  rw [← h7] at n5
  refine bkClose (rid := id) (n5.perm ?_)
  unfold bkC
  rw [List.length_replicate]
theorem Bhas_spec {b p : Nat} {x : Bk} {rid : Nat} (k : Nat) (hk : k < x.l.length) {st : St} (hc : st.cells b = some (bkC p x rid)) :
    RCall Tryz.prog F_bank_Bank_has [.ptr b 0, .int .i64 k] st fun r s => r = .ret (.bool true) ∧ s = st := by
  refine w_bank_Bank_has ?_
  intro K hK
  refine br (fun _ => ⟨_, _, _, _, ldv1 hc rfl, hK _ _ ⟨?_, rfl⟩⟩) fun h => by omega
  congr 2; simp; omega
theorem Bblock_spec {b p : Nat} {x : Bk} {rid : Nat} (k : Nat) (hk : k < 100000) (hb : x.base ≤ 2 ^ 20) (second : Bool) {st : St} (hc : st.cells b = some (bkC p x rid)) :
    RCall Tryz.prog F_bank_Bank_block [.ptr b 0, .int .i64 k, .bool second] st fun r s => r = .ret (.int .i64 (x.blk k second)) ∧ s = st := by
  refine w_bank_Bank_block ?_
  rw [w64 (n := 2 * (k : Int)) (by omega)]
  refine brb (fun h => ⟨_, ldv1 hc rfl, ?_, rfl⟩) fun h => ⟨_, ldv1 hc rfl, ?_, rfl⟩
  · rw [w64 (n := (x.base : Int) + 2 * (k : Int)) (by omega), w64 (by omega)]
    simp only [Bk.blk, h, if_true]; congr 2
  · rw [w64 (by omega)]
    simp only [Bk.blk, h]; congr 2
theorem BRead_spec {b p d : Nat} {x : Bk} (k : Nat) (hk : k < x.l.length) (ok : BkOk x) :
    Does Tryz.prog F_bank_Bank_Read [.ptr b 0, .int .i64 k] (BkA b p d x) fun r => ex fun c => pand (r = retO (x.readO k) c) (BkA b p d (x.read k)) := by
  intro st I h
  obtain ⟨rid, n0⟩ := bkOpen (Now.init h).emp
  have hlong := ok.long
  refine w_bank_Bank_Read ?_
  refine (Bhas_spec k hk n0.cells).mono ?_
  rintro _ s4 ⟨rfl, rfl⟩
  refine ⟨_, rfl, fun h => (by cases h), fun _ => ?_⟩
  have n1 := n0.perm (B := cellA rid (Plc x.l) * (cellA b (bkC p x rid) * (PnA p d x.pn * emp))) (by ac_rfl)
  have hat : x.at' k = x.l[k] := by simp [Bk.at', hk]
  refine ⟨_, _, _, _, ldv1 n0.cells rfl, k, rfl, hk, _, _, Plc_at hk n1.cells, ?_⟩
  intro s10 h10
  have c10 : s10.cells s4.next = some [.bool false, .bool false] := by rw [h10]; exact cells_new _ _
  refine ⟨rfl, rfl, _, c10, by decide, ?_⟩
  intro s12 h12
  rw [repl_two] at h12
  have c12 : s12.cells s4.next = some [.bool x.l[k].1, .bool x.l[k].2] := by rw [h12]; exact cells_set c10
  have l12 : s4.le s12 := by rw [h12]; refine St.le.set ?_ (Nat.le_refl _) _; rw [h10]; exact (St.le.refl _).new _
  have n12 := n0.le l12
  refine ⟨_, ldv1 n12.cells rfl, _, ldv1 c12 rfl, _, ldv1 c12 rfl, ?_⟩
  refine (Bblock_spec k (by omega) ok.base _ n12.cells).mono ?_
  rintro _ s17 ⟨rfl, rfl⟩
  refine ⟨_, rfl, ldv1 n12.cells rfl, ?_⟩
  rw [← hat]
  refine (PRead_spec (x.cur k) ok.pn).retEx (R := cellA b (bkC p x rid) * (cellA rid (Plc x.l) * emp)) (n12.perm (by ac_rfl)) ?_
  intro c s20 n20
  refine ⟨_, _, _, rfl, ?_⟩
  have n21 := bkClose (x := x.read k) (rid := rid) (R := emp) (n20.perm (B := cellA b (bkC p x rid) * (cellA rid (Plc x.l) * (PnA p d (x.read k).pn * emp))) (by show PnA p d (x.read k).pn * _ = _; ac_rfl))
  exact (Now.toEx c (Now.toPand rfl n21)).unemp
theorem BWrite_spec {b p d : Nat} {x : Bk} (k : Nat) (hk : k < x.l.length) (ok : BkOk x) (plain : List UInt8) (c : Cap) :
    Does Tryz.prog F_bank_Bank_Write [.ptr b 0, .int .i64 k, .lst 1 (By plain) c] (BkA b p d x) fun r => pand (r = .ret (.bool (x.write k plain).2)) (BkA b p d (x.write k plain).1) := by
  intro st I h
  obtain ⟨rid, n0⟩ := bkOpen (Now.init h).emp
  have hlong := ok.long
  refine w_bank_Bank_Write ?_
  refine (Bhas_spec k hk n0.cells).mono ?_
  rintro _ s4 ⟨rfl, rfl⟩
  refine ⟨_, rfl, ?_⟩
  intro K hK
  refine ⟨fun _ => ?_, fun h => (by cases h)⟩
  have n1 := n0.perm (B := cellA rid (Plc x.l) * (cellA b (bkC p x rid) * (PnA p d x.pn * emp))) (by ac_rfl)
  have hat : x.at' k = x.l[k] := by simp [Bk.at', hk]
  refine ⟨_, ldv1 n0.cells rfl, _, _, _, _, ldv1 n0.cells rfl, k, rfl, hk, _, ldv1 n1.cells (by rw [Nat.zero_add]; exact (Plc_get hk).1), ?_⟩
  refine (Bblock_spec k (by omega) ok.base _ n0.cells).mono ?_
  rintro _ s12 ⟨rfl, rfl⟩
  refine ⟨_, rfl, ldv1 n0.cells rfl, ?_⟩
  rw [← hat]
  refine (PWrite_spec (x.blk k !(x.at' k).1) plain c ok.pn).ret (R := cellA b (bkC p x rid) * (cellA rid (Plc x.l) * emp)) (n0.perm (by ac_rfl)) ?_
  intro s15 n15
  refine ⟨_, rfl, ?_⟩
  refine hK _ _ ?_
  cases hw : (x.pn.write (x.blk k !(x.at' k).1) plain).2 with
  | false =>
    have e : x.write k plain = ({ x with pn := (x.pn.write (x.blk k !(x.at' k).1) plain).1 }, false) := by simp only [Bk.write, hw, Bool.false_eq_true, if_false]
    rw [e]
    refine ⟨fun _ => ?_, fun h => (by cases h)⟩
    exact (Now.toPand rfl (bkClose (rid := rid) (R := emp) (n15.perm (by show _ = cellA b (bkC p x rid) * _; ac_rfl)))).unemp
  | true =>
    have e : x.write k plain = ({ x with pn := (x.pn.write (x.blk k !(x.at' k).1) plain).1, l := x.l.set k ((x.at' k).1, true) }, true) := by simp only [Bk.write, hw, if_true]
    rw [e]
    refine ⟨fun h => (by cases h), fun _ => ?_⟩
    have n16 := n15.perm (B := cellA b (bkC p x rid) * (cellA rid (Plc x.l) * (PnA p d (x.pn.write (x.blk k !(x.at' k).1) plain).1 * emp))) (by ac_rfl)
    have n17 := n15.perm (B := cellA rid (Plc x.l) * (cellA b (bkC p x rid) * (PnA p d (x.pn.write (x.blk k !(x.at' k).1) plain).1 * emp))) (by ac_rfl)
    refine ⟨_, _, _, _, ldv1 n16.cells rfl, k, rfl, hk, _, n17.cells, by rw [Plc_length]; omega, ?_⟩
    intro s23 h23
    have e2 : (Plc x.l).set (0 + k * 2 + 1) (.bool true) = Plc (x.l.set k ((x.at' k).1, true)) := by
      rw [hat, Plc_set hk, Plc_cut hk, Nat.zero_add]
      have el : (Plc (x.l.take k)).length = k * 2 := by rw [Plc_length, List.length_take]; omega
      rw [List.set_append_right _ _ (by omega), el, show k * 2 + 1 - k * 2 = 1 by omega]; rfl
    rw [e2] at h23
    have n23 := n17.set (Plc (x.l.set k ((x.at' k).1, true)))
    rw [← h23] at n23
    refine (Now.toPand rfl (bkClose (rid := rid) (R := emp) (n23.perm ?_))).unemp
    unfold bkC
    rw [List.length_set]
    ac_rfl
theorem BCommit_spec {b p d : Nat} {x : Bk} (hl : x.l.length ≤ 100000) :
    Does Tryz.prog F_bank_Bank_Commit [.ptr b 0] (BkA b p d x) fun r => pand (r = .ret (.tup [])) (BkA b p d x.commit) := by
  intro st I h
  obtain ⟨rid, n0⟩ := bkOpen (Now.init h).emp
  refine w_bank_Bank_Commit ?_
  refine ⟨_, _, _, _, ldv1 n0.cells rfl, ?_⟩
  refine ⟨fun m i s => ∃ k : Nat, i = k ∧ k ≤ x.l.length ∧ m = x.l.length - k ∧ Now st I (cellA b (bkC p x rid) * (cellA rid (Plc ((x.l.take k).map (fun p => (p.1 != p.2, false)) ++ x.l.drop k)) * (PnA p d x.pn * emp))) s,
    ⟨x.l.length, 0, rfl, by omega, rfl, n0⟩, ?_⟩
  rintro _ _ s6 ⟨k, rfl, hk, rfl, n6⟩
  refine br (fun hlt => ?_) fun hge => ?_
  · have hk' : k < x.l.length := by omega
    have n7 := n6.perm (B := cellA rid (Plc ((x.l.take k).map (fun p => (p.1 != p.2, false)) ++ x.l.drop k)) * (cellA b (bkC p x rid) * (PnA p d x.pn * emp))) (by ac_rfl)
    have hk2 : k < ((x.l.take k).map (fun p => (p.1 != p.2, false)) ++ x.l.drop k).length := by simp; omega
    have hg : ((x.l.take k).map (fun p => (p.1 != p.2, false)) ++ x.l.drop k)[k] = x.l[k] := by
      rw [List.getElem_append_right (by simp; omega)]
      simp only [List.length_map, List.length_take, List.getElem_drop]
      congr 1; omega
    have ha := Plc_at hk2 n7.cells
    rw [hg] at ha
    refine ⟨k, rfl, hk', _, _, ha, ?_⟩
    intro s10 h10
    have c10 : s10.cells s6.next = some [.bool false, .bool false] := by rw [h10]; exact cells_new _ _
    refine ⟨rfl, rfl, _, c10, by decide, ?_⟩
    intro s12 h12
    rw [repl_two] at h12
    have c12 : s12.cells s6.next = some [.bool x.l[k].1, .bool x.l[k].2] := by rw [h12]; exact cells_set c10
    have l12 : s6.le s12 := by rw [h12]; refine St.le.set ?_ (Nat.le_refl _) _; rw [h10]; exact (St.le.refl _).new _
    have n12 := n6.le l12
    have n13 := n7.le l12
    refine ⟨_, _, _, _, ldv1 n12.cells rfl, _, ldv1 c12 rfl, _, ldv1 c12 rfl, k, rfl, hk', rfl, rfl, _, n13.cells, by rw [Plc_length]; omega, ?_⟩
    intro s18 h18
    rw [Nat.zero_add, Plc_repl hk2 (x.l[k].1 != x.l[k].2, false)] at h18
    have e : ((x.l.take k).map (fun p => (p.1 != p.2, false)) ++ x.l.drop k).set k (x.l[k].1 != x.l[k].2, false) = (x.l.take (k + 1)).map (fun p => (p.1 != p.2, false)) ++ x.l.drop (k + 1) := by
      rw [List.set_append_right _ _ (by simp; omega), List.take_succ_eq_append_getElem hk', List.drop_eq_getElem_cons hk']
      simp only [List.length_map, List.length_take, List.map_append, List.map_cons, List.map_nil, List.append_assoc]
      rw [show k - min k x.l.length = 0 by omega]; rfl
    rw [e] at h18
    have n18 := n13.set (Plc ((x.l.take (k + 1)).map (fun p => (p.1 != p.2, false)) ++ x.l.drop (k + 1)))
    rw [← h18] at n18
    exact ⟨x.l.length - (k + 1), by omega, k + 1, by rw [w64 (by omega)]; omega, by omega, rfl, n18.perm (by ac_rfl)⟩
  · rw [List.take_of_length_le (by omega), List.drop_of_length_le (by omega), List.append_nil] at n6
    refine (Now.toPand rfl (bkClose (x := x.commit) (rid := rid) (R := emp) (n6.perm ?_))).unemp
    rw [show bkC p x.commit rid = bkC p x rid by simp [bkC, Bk.commit]]
    rfl
end Go.Proofs.YtffenelcgjdbiaaGreatDoor
namespace Go.Proofs.YtffenelcgjdbiaaGreatDoor
open Go Go.Sim
set_option maxRecDepth 100000
def Prs (l : List (V × V)) : List V := l.flatMap fun p => [p.1, p.2]
theorem Prs_append (l m : List (V × V)) : Prs (l ++ m) = Prs l ++ Prs m := by simp [Prs]
theorem Prs_length (l : List (V × V)) : (Prs l).length = l.length * 2 := by
  induction l with
  | nil => rfl
  | cons p l ih => show ([p.1, p.2] ++ Prs l).length = _; rw [List.length_append, ih, List.length_cons]; simp; omega
theorem Prs_drop (l : List (V × V)) (k : Nat) : (Prs l).drop (k * 2) = Prs (l.drop k) := by
  induction l generalizing k with
  | nil => simp [Prs]
  | cons p l ih =>
    cases k with
    | zero => simp
    | succ k =>
      show ([p.1, p.2] ++ Prs l).drop _ = Prs (l.drop k)
      rw [← ih, show (k + 1) * 2 = k * 2 + 2 by omega]; rfl
theorem Prs_cut {l : List (V × V)} {k : Nat} (h : k < l.length) : Prs l = Prs (l.take k) ++ ([l[k].1, l[k].2] ++ Prs (l.drop (k + 1))) := by
  conv => lhs; rw [← List.take_append_drop k l, List.drop_eq_getElem_cons h, Prs_append]
  rfl
theorem Prs_set {l : List (V × V)} {k : Nat} (h : k < l.length) (p : V × V) : Prs (l.set k p) = Prs (l.take k) ++ ([p.1, p.2] ++ Prs (l.drop (k + 1))) := by
  rw [List.set_eq_take_append_cons_drop, if_pos h, Prs_append]; rfl
theorem Prs_repl {l : List (V × V)} {k : Nat} (h : k < l.length) (p : V × V) : repl (Prs l) (k * 2) [p.1, p.2] = Prs (l.set k p) := by
  rw [Prs_cut h, Prs_set h, repl_mid (b := [l[k].1, l[k].2]) (v := [p.1, p.2]) (by rw [Prs_length, List.length_take]; omega) rfl]
theorem Prs_at {l : List (V × V)} {k : Nat} (h : k < l.length) {st : St} {r : Nat} (hc : st.cells r = some (Prs l)) : st.ldv r (0 + k * 2) 2 true = some (.agg [l[k].1, l[k].2]) := by
  rw [Nat.zero_add, ldvp hc (by rw [Prs_length]; omega), Prs_drop, List.drop_eq_getElem_cons h]; rfl
theorem Prs_get {l : List (V × V)} {k : Nat} (h : k < l.length) : (Prs l)[k * 2]? = some l[k].1 ∧ (Prs l)[k * 2 + 1]? = some l[k].2 := by
  have e : (Prs (l.take k)).length = k * 2 := by rw [Prs_length, List.length_take]; omega
  rw [Prs_cut h]
  constructor
  · rw [List.getElem?_append_right (by omega), e, Nat.sub_self]; rfl
  · rw [List.getElem?_append_right (by omega), e, show k * 2 + 1 - k * 2 = 1 by omega]; rfl
abbrev Ps := List (Nat × Nat)
def pv (p : Nat × Nat) : V × V := (.int .i64 p.1, .int .u64 p.2)
def Psc (l : Ps) : List V := Prs (l.map pv)
def PsA (m : Nat) (l : Ps) : Asn := ex fun rid => cellA m [.ref 2 rid 0 l.length l.length] * cellA rid (Psc l)
theorem psOpen {st s : St} {I : Nat → Prop} {m : Nat} {l : Ps} {R : Asn} (h : Now st I (PsA m l * R) s) : ∃ rid, Now st I (cellA m [.ref 2 rid 0 l.length l.length] * (cellA rid (Psc l) * R)) s := by
  obtain ⟨rid, n⟩ := h.ex
  exact ⟨rid, n.perm (sep_assoc _ _ _)⟩
theorem psClose {st s : St} {I : Nat → Prop} {m : Nat} {l : Ps} {R : Asn} {rid : Nat} (h : Now st I (cellA m [.ref 2 rid 0 l.length l.length] * (cellA rid (Psc l) * R)) s) : Now st I (PsA m l * R) s :=
  Now.toEx rid (h.perm (sep_assoc _ _ _).symm)
def psHas (l : Ps) (id : Int) : Bool := decide (1 ≤ id ∧ id ≤ l.length)
def psAt (l : Ps) (id : Int) : Nat × Nat := l.getD (id - 1).toNat (0, 0)
def psGet (l : Ps) (id : Int) : Option (Nat × Nat) := if psHas l id = true ∧ (psAt l id).1 ≠ 0 then some ((psAt l id).1 - 1, (psAt l id).2) else none
def psSet (l : Ps) (id : Int) (leaf draw : Nat) : Ps := if psHas l id = true then l.set (id - 1).toNat (leaf + 1, draw) else l
def psClear (l : Ps) (id : Int) : Ps := if psHas l id = true then l.set (id - 1).toNat (0, 0) else l
def psState (l : Ps) : List UInt8 := l.flatMap fun p => putL p.1 4 ++ putL p.2 8
structure PsOk (l : Ps) : Prop where
  long : l.length ≤ 10000
  leaf : ∀ p ∈ l, p.1 ≤ 65536 ∧ p.2 < 2 ^ 64
theorem psHas_spec {m rid : Nat} {l : Ps} (id : Int) {st : St} (hc : st.cells m = some [.ref 2 rid 0 l.length l.length]) :
    RCall Tryz.prog F_posm_Map_has [.ptr m 0, .int .i64 id] st fun r s => r = .ret (.bool (psHas l id)) ∧ s = st := by
  refine w_posm_Map_has ?_
  intro K hK
  refine br (fun h => ⟨_, _, _, _, ldv1 hc rfl, hK _ _ ⟨?_, rfl⟩⟩) fun h => hK _ _ ⟨?_, rfl⟩
  · congr 2; simp [psHas]; omega
  · congr 2; simp [psHas]; omega
theorem PsNew_spec (n : Nat) (hn : n ≤ 10000) (st : St) : RCall Tryz.prog F_posm_New [.int .i64 n] st fun r s => ∃ m, r = .ret (.ptr m 0) ∧ ∀ st0 I R, Now st0 I R st → Now st0 I (PsA m (List.replicate n (0, 0)) * R) s := by
  refine w_posm_New ?_
  rw [show min (max (n : Int) 0) 10000 = n by omega]
  refine ⟨n, n, rfl, rfl, Nat.le_refl _, by omega, ?_⟩
  intro st4 h4 st5 h5
  refine ⟨_, rfl, fun st0 I R h0 => ?_⟩
  have e : (List.replicate n [V.int .i64 0, .int .u64 0]).flatten = Psc (List.replicate n (0, 0)) := by
    clear h4 h5
    induction n with
    | zero => rfl
    | succ n ih => rw [List.replicate_succ, List.flatten_cons, ih (by omega)]; rfl
  rw [e] at h4
  have n4 := h0.newC (Psc (List.replicate n (0, 0)))
  rw [← h4] at n4
  have n5 := n4.newC [.ref 2 st.next 0 n n]
  rw [← h5] at n5
  refine psClose (rid := st.next) (n5.perm ?_)
  rw [List.length_replicate]
theorem ps_idx {l : Ps} {id : Int} (h : psHas l id = true) : ∃ k : Nat, id = k + 1 ∧ k < l.length ∧ (id - 1).toNat = k := by
  have h2 : 1 ≤ id ∧ id ≤ l.length := by simpa [psHas] using h
  exact ⟨(id - 1).toNat, by omega, by omega, rfl⟩
theorem Psc_at {l : Ps} {k : Nat} (h : k < l.length) {st : St} {r : Nat} (hc : st.cells r = some (Psc l)) : st.ldv r (0 + k * 2) 2 true = some (.agg [.int .i64 l[k].1, .int .u64 l[k].2]) := by
  have := Prs_at (l := l.map pv) (k := k) (by simpa using h) hc
  rw [this, List.getElem_map]; rfl
theorem Psc_get {l : Ps} {k : Nat} (h : k < l.length) : (Psc l)[0 + k * 2 + 0]? = some (.int .i64 l[k].1) := by
  have := (Prs_get (l := l.map pv) (k := k) (by simpa using h)).1
  rw [Nat.zero_add, Nat.add_zero, Psc, this, List.getElem_map]; rfl
theorem Psc_get1 {l : Ps} {k : Nat} (h : k < l.length) : (Psc l)[0 + k * 2 + 1]? = some (.int .u64 l[k].2) := by
  have := (Prs_get (l := l.map pv) (k := k) (by simpa using h)).2
  rw [Nat.zero_add, Psc, this, List.getElem_map]; rfl
theorem Psc_length (l : Ps) : (Psc l).length = l.length * 2 := by rw [Psc, Prs_length, List.length_map]
theorem Psc_repl {l : Ps} {k : Nat} (h : k < l.length) (a b : Nat) : repl (Psc l) (0 + k * 2) [.int .i64 a, .int .u64 b] = Psc (l.set k (a, b)) := by
  have := Prs_repl (l := l.map pv) (k := k) (by simpa using h) (pv (a, b))
  rw [Nat.zero_add, Psc, Psc, List.map_set, ← this]; rfl
theorem repl_twoP (a b c d : V) : repl [a, b] 0 [c, d] = [c, d] := rfl
def posV (o : Option (Nat × Nat)) : Res := .ret (.tup [.agg [.int .i64 (o.getD (0, 0)).1, .int .u64 (o.getD (0, 0)).2], .bool o.isSome])
theorem PsGet_spec {m : Nat} {l : Ps} (id : Int) (ok : PsOk l) : Does Tryz.prog F_posm_Map_Get [.ptr m 0, .int .i64 id] (PsA m l) fun r => pand (r = posV (psGet l id)) (PsA m l) := by
  intro st I h
  obtain ⟨rid, n0⟩ := psOpen (Now.init h).emp
  refine w_posm_Map_Get ?_
  intro st3 h3
  have c3 : st3.cells st.next = some [.int .i64 0, .int .u64 0] := by rw [h3]; exact cells_new _ _
  have l3 : st.le st3 := by rw [h3]; exact (St.le.refl _).new _
  have n3 := n0.le l3
  have n3' := n3.perm (B := cellA rid (Psc l) * (cellA m [.ref 2 rid 0 l.length l.length] * emp)) (by ac_rfl)
  refine (psHas_spec id n3.cells).mono ?_
  rintro _ s5 ⟨rfl, rfl⟩
  refine ⟨_, rfl, ?_⟩
  intro K hK
  have no : psGet l id = none → K true s5 := by
    intro hn
    refine hK _ _ ⟨fun _ => ?_, fun h => (by cases h)⟩
    refine ⟨rfl, rfl, _, c3, by decide, ?_⟩
    rw [repl_twoP]
    intro s14 h14
    have c14 : s14.cells st.next = some [.int .i64 0, .int .u64 0] := by rw [h14]; exact cells_set c3
    have l14 : st.le s14 := by rw [h14]; exact l3.set (Nat.le_refl _) _
    refine ⟨_, _, ldvg c14 rfl, ?_⟩
    rw [hn]
    exact (Now.toPand rfl (psClose (n0.le l14))).unemp
  refine ⟨fun hh => ?_, fun hh => no ?_⟩
  · have hh : psHas l id = true := by simpa using hh
    obtain ⟨k, rfl, hk, hk2⟩ := ps_idx hh
    have hlong := ok.long
    have hw : IntKind.i64.wrap ((k : Int) + 1 - 1) = k := by rw [w64 (by omega)]; omega
    have hat : psAt l ((k : Int) + 1) = l[k] := by simp [psAt, hk]
    refine ⟨_, _, _, _, ldv1 n3.cells rfl, k, hw, hk, _, ldv1 n3'.cells (Psc_get hk), ?_⟩
    by_cases hz : l[k].1 = 0
    · rw [show (((l[k].1 : Nat) : Int) == 0) = true by simp [hz]]
      exact no (by rw [psGet, if_neg]; rw [hat]; intro h; exact h.2 hz)
    · rw [show (((l[k].1 : Nat) : Int) == 0) = false by simp [hz]]
      refine hK _ _ ⟨fun h => (by cases h), fun _ => ?_⟩
      refine ⟨_, _, _, _, ldv1 n3.cells rfl, k, hw, hk, _, _, Psc_at hk n3'.cells, ?_⟩
      intro s19 h19
      have c19 : s19.cells s5.next = some [.int .i64 0, .int .u64 0] := by rw [h19]; exact cells_new _ _
      refine ⟨rfl, rfl, _, c19, by decide, ?_⟩
      rw [repl_twoP]
      intro s21 h21
      have c21 : s21.cells s5.next = some [.int .i64 l[k].1, .int .u64 l[k].2] := by rw [h21]; exact cells_set c19
      refine ⟨_, ldv1 c21 rfl, _, c21, by simp, ?_⟩
      have hl := ok.leaf l[k] (List.getElem_mem hk)
      rw [w64 (n := ((l[k].1 : Nat) : Int) - 1) (by omega)]
      intro s24 h24
      have c24 : s24.cells s5.next = some [.int .i64 ((l[k].1 : Int) - 1), .int .u64 l[k].2] := by rw [h24]; exact cells_set c21
      refine ⟨_, _, ldvg c24 rfl, rfl, rfl, ?_⟩
      have l24 : s5.le s24 := by
        rw [h24]; refine St.le.set ?_ (Nat.le_refl _) _
        rw [h21]; refine St.le.set ?_ (Nat.le_refl _) _
        rw [h19]; exact (St.le.refl _).new _
      have d24 : s24.cells st.next = some [.int .i64 0, .int .u64 0] := l24.getC c3
      refine ⟨_, d24, by decide, ?_⟩
      rw [repl_twoP]
      intro s28 h28
      have c28 : s28.cells st.next = some [.int .i64 ((l[k].1 : Int) - 1), .int .u64 l[k].2] := by rw [h28]; exact cells_set d24
      refine ⟨_, _, ldvg c28 rfl, ?_⟩
      have e : psGet l ((k : Int) + 1) = some (l[k].1 - 1, l[k].2) := by rw [psGet, if_pos ⟨hh, by rw [hat]; exact hz⟩, hat]
      rw [e]
      have e2 : ((l[k].1 : Nat) : Int) - 1 = ((l[k].1 - 1 : Nat) : Int) := by omega
      rw [e2]
      refine (Now.toPand rfl (psClose (n0.le ?_))).unemp
      rw [h28]
      exact (l3.trans l24).set (Nat.le_refl _) _
  · rw [psGet, if_neg]
    intro h
    rw [h.1] at hh; cases hh
theorem PsSet_spec {m : Nat} {l : Ps} (id : Int) (leaf draw : Nat) (hl : l.length ≤ 10000) (hf : leaf ≤ 65535) :
    Does Tryz.prog F_posm_Map_Set [.ptr m 0, .int .i64 id, .agg [.int .i64 leaf, .int .u64 draw]] (PsA m l) fun r => pand (r = .ret (.bool (psHas l id))) (PsA m (psSet l id leaf draw)) := by
  intro st I h
  have nn := (Now.init h).emp
  obtain ⟨rid, n0⟩ := psOpen nn
  refine w_posm_Map_Set ?_
  intro st5 h5
  have c5 : st5.cells st.next = some [.int .i64 leaf, .int .u64 draw] := by rw [h5]; exact cells_new _ _
  have l5 : st.le st5 := by rw [h5]; exact (St.le.refl _).new _
  have n5 := n0.le l5
  refine (psHas_spec id n5.cells).mono ?_
  rintro _ s7 ⟨rfl, rfl⟩
  refine ⟨_, rfl, ?_⟩
  intro K hK
  cases hh : psHas l id with
  | false =>
    refine ⟨fun h => (by cases h), fun _ => ?_⟩
    refine hK _ _ fun K15 h15 => ⟨fun h => (by cases h), fun _ => h15 _ _ ⟨fun _ => ?_, fun h => (by cases h)⟩⟩
    rw [show psSet l id leaf draw = l by rw [psSet, if_neg (by rw [hh]; decide)]]
    exact (Now.toPand (by rw [hh]) (nn.le l5)).unemp
  | true =>
    refine ⟨fun _ => ?_, fun h => (by cases h)⟩
    refine ⟨_, ldv1 c5 rfl, ?_⟩
    rw [show decide ((leaf : Int) < 0) = false by simp]
    refine hK _ _ fun K15 h15 => ⟨fun _ => ⟨_, ldv1 c5 rfl, ?_⟩, fun h => (by cases h)⟩
    rw [show decide ((leaf : Int) > 65535) = false by simp; omega]
    refine h15 _ _ ⟨fun h => (by cases h), fun _ => ?_⟩
    obtain ⟨k, rfl, hk, hk2⟩ := ps_idx hh
    refine ⟨_, ldv1 c5 rfl, _, c5, by simp, ?_⟩
    rw [w64 (n := (leaf : Int) + 1) (by omega)]
    intro s19 h19
    have c19 : s19.cells st.next = some [.int .i64 ((leaf : Int) + 1), .int .u64 draw] := by rw [h19]; exact cells_set c5
    have l19 : st.le s19 := by rw [h19]; exact l5.set (Nat.le_refl _) _
    have n19 := n0.le l19
    have n19' := n19.perm (B := cellA rid (Psc l) * (cellA m [.ref 2 rid 0 l.length l.length] * emp)) (by ac_rfl)
    refine ⟨_, _, _, _, ldv1 n19.cells rfl, _, _, ldvg c19 rfl, k, by rw [w64 (by omega)]; omega, hk, rfl, rfl, _, n19'.cells, by rw [Psc_length]; omega, ?_⟩
    intro s25 h25
    rw [show (leaf : Int) + 1 = ((leaf + 1 : Nat) : Int) by omega, Psc_repl hk] at h25
    have n25 := n19'.set (Psc (l.set k (leaf + 1, draw)))
    rw [← h25] at n25
    rw [show psSet l ((k : Int) + 1) leaf draw = l.set k (leaf + 1, draw) by rw [psSet, if_pos hh, hk2]]
    refine (Now.toPand (by rw [hh]) (psClose (rid := rid) (n25.perm ?_))).unemp
    rw [List.length_set]
    ac_rfl
theorem PsClear_spec {m : Nat} {l : Ps} (id : Int) (hl : l.length ≤ 10000) :
    Does Tryz.prog F_posm_Map_Clear [.ptr m 0, .int .i64 id] (PsA m l) fun r => pand (r = .ret (.tup [])) (PsA m (psClear l id)) := by
  intro st I h
  have nn := (Now.init h).emp
  obtain ⟨rid, n0⟩ := psOpen nn
  refine w_posm_Map_Clear ?_
  refine (psHas_spec id n0.cells).mono ?_
  rintro _ s4 ⟨rfl, rfl⟩
  refine ⟨_, rfl, fun hh => ?_, fun hh => ?_⟩
  · obtain ⟨k, rfl, hk, hk2⟩ := ps_idx hh
    have n1 := n0.perm (B := cellA rid (Psc l) * (cellA m [.ref 2 rid 0 l.length l.length] * emp)) (by ac_rfl)
    refine ⟨_, _, _, _, ldv1 n0.cells rfl, k, by rw [w64 (by omega)]; omega, hk, rfl, rfl, _, n1.cells, by rw [Psc_length]; omega, ?_⟩
    intro s9 h9
    have e : repl (Psc l) (0 + k * 2) [.int .i64 0, .int .u64 0] = Psc (l.set k (0, 0)) := Psc_repl hk 0 0
    rw [e] at h9
    have n9 := n1.set (Psc (l.set k (0, 0)))
    rw [← h9] at n9
    rw [show psClear l ((k : Int) + 1) = l.set k (0, 0) by rw [psClear, if_pos hh, hk2]]
    refine (Now.toPand rfl (psClose (rid := rid) (n9.perm ?_))).unemp
    rw [List.length_set]
    ac_rfl
  · rw [show psClear l id = l by rw [psClear, if_neg (by rw [hh]; decide)]]
    exact (Now.toPand rfl nn).unemp
theorem psState_length (l : Ps) : (psState l).length = 12 * l.length := by
  induction l with
  | nil => rfl
  | cons p l ih => rw [psState, List.flatMap_cons, List.length_append]; rw [psState] at ih; rw [ih]; simp; omega
theorem psState_step {l : Ps} {k : Nat} (h : k < l.length) : psState (l.take (k + 1)) = psState (l.take k) ++ (putL l[k].1 4 ++ putL l[k].2 8) := by
  rw [psState, List.take_succ_eq_append_getElem h, List.flatMap_append, List.flatMap_cons, List.flatMap_nil, List.append_nil]; rfl
theorem PsState_spec {m : Nat} {l : Ps} (ok : PsOk l) : Does Tryz.prog F_posm_Map_State [.ptr m 0] (PsA m l) fun r => ex fun c => pand (r = .ret (.lst 1 (By (psState l)) c)) (PsA m l) := by
  intro st I h
  have nn := (Now.init h).emp
  obtain ⟨rid, n0⟩ := psOpen nn
  have hlong := ok.long
  refine w_posm_Map_State ?_
  refine ⟨_, _, _, _, ldv1 n0.cells rfl, ?_⟩
  refine ⟨fun n out c i s => ∃ k : Nat, i = k ∧ k ≤ l.length ∧ n = l.length - k ∧ out = By (psState (l.take k)) ∧ st.le s, ⟨l.length, 0, rfl, by omega, rfl, rfl, .refl st⟩, ?_⟩
  rintro _ _ c3 _ s7 ⟨k, rfl, hk, rfl, rfl, l7⟩
  refine br (fun hlt => ?_) fun hge => ?_
  · have hk' : k < l.length := by omega
    have n7 := (n0.le l7).perm (B := cellA rid (Psc l) * (cellA m [.ref 2 rid 0 l.length l.length] * emp)) (by ac_rfl)
    refine ⟨k, rfl, hk', _, _, Psc_at hk' n7.cells, ?_⟩
    intro s11 h11
    have c11 : s11.cells s7.next = some [.int .i64 0, .int .u64 0] := by rw [h11]; exact cells_new _ _
    refine ⟨rfl, rfl, _, c11, by decide, ?_⟩
    rw [repl_twoP]
    intro s13 h13
    have c13 : s13.cells s7.next = some [.int .i64 l[k].1, .int .u64 l[k].2] := by rw [h13]; exact cells_set c11
    have l13 : s7.le s13 := by rw [h13]; refine St.le.set ?_ (Nat.le_refl _) _; rw [h11]; exact (St.le.refl _).new _
    have ho := ok.leaf l[k] (List.getElem_mem hk')
    refine ⟨_, ldv1 c13 rfl, _, ldv1 c13 rfl, ?_⟩
    rw [wu64 (n := ((l[k].1 : Nat) : Int)) (by omega)]
    refine (Put_spec l[k].1 4 (by decide) s13).mono ?_
    rintro _ s17 ⟨c18, rfl, o17⟩
    refine ⟨_, _, rfl, ldv1 (o17.le.getC c13) rfl, ?_⟩
    refine (Put_spec l[k].2 8 (by decide) s17).mono ?_
    rintro _ s20 ⟨c21, rfl, o20⟩
    refine ⟨_, _, rfl, ?_⟩
    have hc := Concat_spec [(psState (l.take k), .unk), (putL l[k].1 4, .unk), (putL l[k].2 8, .unk)] .exact (by simp) (by simp) (by simp [psState_length]; omega) s20
    refine hc.mono ?_
    rintro _ s23 ⟨c24, rfl, o23⟩
    have e : (([(psState (l.take k), Cap.unk), (putL l[k].1 4, .unk), (putL l[k].2 8, .unk)] : List (List UInt8 × Cap)).map (·.1)).flatten = psState (l.take (k + 1)) := by
      rw [psState_step hk']; simp
    rw [e]
    exact ⟨_, _, rfl, l.length - (k + 1), by omega, k + 1, by rw [w64 (by omega)]; omega, by omega, rfl, rfl, ((l7.trans l13).trans o17.le).trans (o20.le.trans o23.le)⟩
  · rw [List.take_of_length_le (by omega)]
    exact (Now.toEx c3 (Now.toPand rfl (nn.le l7))).unemp
theorem psState_cut {l : Ps} {k : Nat} (h : k < l.length) : ((psState l).take (12 * k + 12)).drop (12 * k) = putL l[k].1 4 ++ putL l[k].2 8 := by
  have e : psState l = psState (l.take k) ++ ((putL l[k].1 4 ++ putL l[k].2 8) ++ psState (l.drop (k + 1))) := by
    conv => lhs; rw [← List.take_append_drop k l, List.drop_eq_getElem_cons h]
    rw [psState, List.flatMap_append, List.flatMap_cons]; rfl
  have hl : (psState (l.take k)).length = 12 * k := by rw [psState_length, List.length_take]; omega
  rw [e, List.take_append, hl, List.take_of_length_le (by omega), show 12 * k + 12 - 12 * k = 12 by omega, List.take_left' (by simp), List.drop_left' hl]
structure PsFull (l : Ps) : Prop where
  ok : PsOk l
  none : ∀ p ∈ l, p.1 = 0 → p.2 = 0
theorem PsLoad_spec {m : Nat} {l l' : Ps} (c : Cap) (hl : l'.length = l.length) (ok : PsFull l') :
    Does Tryz.prog F_posm_Map_Load [.ptr m 0, .lst 1 (By (psState l')) c] (PsA m l) fun r => pand (r = .ret (.bool true)) (PsA m l') := by
  intro st I h
  obtain ⟨rid, n0⟩ := psOpen (Now.init h).emp
  have hlong := ok.ok.long
  refine w_posm_Map_Load ?_
  refine ⟨_, _, _, _, ldv1 n0.cells rfl, ?_⟩
  rw [By_length, psState_length, w64 (n := 12 * ((l.length : Nat) : Int)) (by omega)]
  refine ⟨fun h => ?_, fun _ => ?_⟩
  · exfalso
    have : ((12 * l'.length : Nat) : Int) = 12 * (l.length : Int) := by omega
    rw [this] at h; simp at h
  refine ⟨_, _, _, _, ldv1 n0.cells rfl, l.length, l.length, rfl, rfl, Nat.le_refl _, by omega, ?_⟩
  have e0 : ∀ n : Nat, (List.replicate n [V.int .i64 0, .int .u64 0]).flatten = Psc (List.replicate n (0, 0)) := by
    intro n
    induction n with
    | zero => rfl
    | succ n ih => rw [List.replicate_succ, List.flatten_cons, ih]; rfl
  rw [e0]
  intro st7 h7
  have n7 := n0.newC (Psc (List.replicate l.length (0, 0)))
  rw [← h7] at n7
  refine ⟨fun n i s => ∃ k : Nat, i = k ∧ k ≤ l.length ∧ n = l.length - k ∧ Now st I (cellA st.next (Psc (l'.take k ++ List.replicate (l.length - k) (0, 0))) * (cellA m [.ref 2 rid 0 l.length l.length] * (cellA rid (Psc l) * emp))) s,
    ⟨l.length, 0, rfl, by omega, rfl, by rw [List.take_zero, List.nil_append, Nat.sub_zero]; exact n7⟩, ?_⟩
  rintro _ _ s11 ⟨k, rfl, hk, rfl, n11⟩
  refine br (fun hlt => ?_) fun hge => ?_
  · have hk' : k < l'.length := by omega
    have ho := ok.ok.leaf l'[k] (List.getElem_mem hk')
    have hn := ok.none l'[k] (List.getElem_mem hk')
    rw [w64 (n := 12 * (k : Int)) (by omega), w64 (n := 12 * (k : Int) + 12) (by omega)]
    refine ⟨12 * k, 12 * k + 12, by omega, by omega, by omega, by omega, ?_⟩
    have ec : ((By (psState l')).take (12 * k + 12)).drop (12 * k) = By (putL l'[k].1 4 ++ putL l'[k].2 8) := by rw [By_take, By_drop, psState_cut hk']
    rw [ec]
    refine ⟨4, rfl, by simp, 4, rfl, by simp, ?_⟩
    rw [By_take, By_drop, List.take_left' (by simp), List.drop_left' (by simp)]
    refine (Get_spec (putL l'[k].1 4) _ (by simp) s11).mono ?_
    rintro _ s17 ⟨rfl, l17⟩
    refine ⟨_, rfl, ?_⟩
    refine (Get_spec (putL l'[k].2 8) _ (by simp) s17).mono ?_
    rintro _ s20 ⟨rfl, l20⟩
    rw [get_putL _ _ (by omega), get_putL _ _ (by omega), w64 (n := ((l'[k].1 : Nat) : Int)) (by omega)]
    have n20 := (n11.le l17).le l20
    have hk2 : k < (l'.take k ++ List.replicate (l.length - k) (0, 0)).length := by simp; omega
    refine ⟨_, rfl, k, rfl, by omega, rfl, rfl, _, n20.cells, by rw [Psc_length]; omega, ?_⟩
    intro s24 h24
    rw [Psc_repl hk2] at h24
    have e24 : (l'.take k ++ List.replicate (l.length - k) (0, 0)).set k (l'[k].1, l'[k].2) = l'.take (k + 1) ++ List.replicate (l.length - (k + 1)) (0, 0) := by
      rw [List.set_append_right _ _ (by simp; omega), List.take_succ_eq_append_getElem hk', show l.length - k = (l.length - (k + 1)) + 1 by omega, List.replicate_succ]
      rw [show k - (l'.take k).length = 0 by simp; omega, List.set_cons_zero]
      simp only [List.append_assoc, List.cons_append, List.nil_append]
    rw [e24] at h24
    have n24 := n20.set (Psc (l'.take (k + 1) ++ List.replicate (l.length - (k + 1)) (0, 0)))
    rw [← h24] at n24
    have hk3 : k < (l'.take (k + 1) ++ List.replicate (l.length - (k + 1)) (0, 0)).length := by simp; omega
    have hg : (l'.take (k + 1) ++ List.replicate (l.length - (k + 1)) (0, 0))[k] = l'[k] := by
      rw [List.getElem_append_left (by simp; omega)]; simp
    have g0 := Psc_get hk3
    have g1 := Psc_get1 hk3
    rw [hg] at g0 g1
    refine ⟨k, rfl, by omega, _, ldv1 n24.cells g0, ?_⟩
    intro K hK
    rw [show decide (((l'[k].1 : Nat) : Int) > 65536) = false by simp; omega]
    have go : K false s24 := hK _ _ ⟨fun h => (by cases h), fun _ => ⟨l.length - (k + 1), by omega, k + 1, by rw [w64 (by omega)]; omega, by omega, rfl, n24⟩⟩
    refine ⟨fun _ => ⟨k, rfl, by omega, _, ldv1 n24.cells g0, fun hz => ⟨k, rfl, by omega, _, ldv1 n24.cells g1, ?_⟩, fun _ => go⟩, fun h => (by cases h)⟩
    have hz' : l'[k].1 = 0 := by simpa using hz
    rw [hn hz', show decide (((0 : Nat) : Int) > 0) = false from rfl]
    exact go
  · have hkk : k = l.length := by omega
    subst hkk
    rw [List.take_of_length_le (by omega), Nat.sub_self, List.replicate_zero, List.append_nil] at n11
    have n12 := n11.perm (B := cellA m [.ref 2 rid 0 l.length l.length] * (cellA st.next (Psc l') * (cellA rid (Psc l) * emp))) (by ac_rfl)
    refine ⟨_, n12.cells, by simp, ?_⟩
    intro s36 h36
    have n36 := n12.set [.ref 2 st.next 0 l.length l.length]
    rw [show [V.ref 2 rid 0 l.length l.length].set 0 (.ref 2 st.next 0 l.length l.length) = [.ref 2 st.next 0 l.length l.length] from rfl] at h36
    rw [← h36] at n36
    have n37 := (n36.perm (B := cellA rid (Psc l) * (cellA m [.ref 2 st.next 0 l'.length l'.length] * (cellA st.next (Psc l') * emp))) (by rw [hl]; ac_rfl)).drop
    exact (Now.toPand rfl (psClose n37)).unemp
end Go.Proofs.YtffenelcgjdbiaaGreatDoor
namespace Go.Proofs.YtffenelcgjdbiaaGreatDoor
open Go Go.Sim
set_option maxRecDepth 100000
theorem Clone32_spec (l : List V) (c : Cap) (hl : l.length ≤ 2 ^ 40) (st : St) : RCall Tryz.prog F_slices_Clone_uint32_uint32 [.lst 1 l c] st fun r st' => ∃ c', r = .ret (.lst 1 l c') ∧ Own st st' c' := by
  refine w_slices_Clone_uint32_uint32 ?_
  intro b hb _
  refine brb (fun h => ⟨_, by rw [hb h], Own.nil (.refl st)⟩) fun _ => ?_
  have ho : Own st st .exact := Own.exact (.refl st)
  refine ⟨ho.has (by omega), fun c' st' ha => ⟨c', by rw [List.nil_append], ho.app ha⟩⟩
theorem Clone64_spec (l : List V) (c : Cap) (hl : l.length ≤ 2 ^ 40) (st : St) : RCall Tryz.prog F_slices_Clone_uint64_uint64 [.lst 1 l c] st fun r st' => ∃ c', r = .ret (.lst 1 l c') ∧ Own st st' c' := by
  refine w_slices_Clone_uint64_uint64 ?_
  intro b hb _
  refine brb (fun h => ⟨_, by rw [hb h], Own.nil (.refl st)⟩) fun _ => ?_
  have ho : Own st st .exact := Own.exact (.refl st)
  refine ⟨ho.has (by omega), fun c' st' ha => ⟨c', by rw [List.nil_append], ho.app ha⟩⟩
def U32s (l : List Nat) : List V := l.map fun (n : Nat) => V.int .u32 (n : Int)
def U64s (l : List Nat) : List V := l.map fun (n : Nat) => V.int .u64 (n : Int)
structure Src where
  tape : List Nat
  next : Nat
def srcC (x : Src) (c : Cap) : List V := [.lst 1 (U32s x.tape) c, .bool false] ++ List.replicate 32 (V.int .u8 0) ++ [.int .u64 x.next]
def SrcA (s : Nat) (x : Src) : Asn := ex fun c => cellA s (srcC x c)
structure SrcOk (x : Src) : Prop where
  next : x.next ≤ 2 ^ 40
  long : x.tape.length ≤ 2 ^ 40
  word : ∀ n ∈ x.tape, n < 2 ^ 32
def Src.word (x : Src) (n : Nat) : Nat := x.tape.getD n 0
def Src.draw (x : Src) (d : Nat) : Nat := x.word x.next % 2 ^ d
theorem srcC_34 (x : Src) (c : Cap) : (srcC x c)[34]? = some (.int .u64 x.next) := rfl
theorem Tape_spec (l : List Nat) (c : Cap) (hl : l.length ≤ 2 ^ 40) (st : St) : RCall Tryz.prog F_draw_Tape [.lst 1 (U32s l) c] st fun r s => ∃ m, r = .ret (.ptr m 0) ∧ ∀ st0 I R, Now st0 I R st → Now st0 I (SrcA m ⟨l, 0⟩ * R) s := by
  refine w_draw_Tape ?_
  refine (Clone32_spec (U32s l) c (by simpa [U32s] using hl) st).mono ?_
  rintro _ s3 ⟨c4, rfl, ho⟩
  refine ⟨_, _, rfl, ?_⟩
  intro s5 h5
  refine ⟨_, rfl, fun st0 I R h0 => ?_⟩
  rw [h5]
  exact Now.toEx c4 ((h0.le ho.le).newC _)
theorem sdraw_spec {s : Nat} {x : Src} {c : Cap} (n : Nat) (ok : SrcOk x) (hn : n ≤ 2 ^ 40) {st : St} (hc : st.cells s = some (srcC x c)) :
    RCall Tryz.prog F_draw_Source_draw [.ptr s 0, .int .u64 n] st fun r s => r = .ret (.int .u32 (x.word n)) ∧ s = st := by
  refine w_draw_Source_draw ?_
  refine ⟨_, ldv1 hc rfl, fun _ => ?_, fun h => (by cases h)⟩
  have hl : (U32s x.tape).length = x.tape.length := by simp [U32s]
  have hlong := ok.long
  refine ⟨_, _, ldv1 hc rfl, ?_⟩
  rw [hl, wu64 (by omega)]
  refine br (fun h => ?_) fun h => ?_
  · have h' : n < x.tape.length := by omega
    refine ⟨_, _, ldv1 hc rfl, n, rfl, (x.tape[n] : Int), by simp [U32s, h'], ?_, rfl⟩
    simp [Src.word, h']
  · have h' : x.tape.length ≤ n := by omega
    refine ⟨?_, rfl⟩
    simp [Src.word, List.getD_eq_getElem?_getD, List.getElem?_eq_none h']
theorem Next_spec {s : Nat} {x : Src} {d : Nat} (hd : d ≤ 16) (ok : SrcOk x) :
    Does Tryz.prog F_draw_Source_Next [.ptr s 0, .int .i64 (2 ^ d : Nat)] (SrcA s x) fun r => pand (r = .ret (.int .i64 (x.draw d))) (SrcA s ⟨x.tape, x.next + 1⟩) := by
  intro st I h
  obtain ⟨c, n0⟩ := (Now.init h).emp.ex
  obtain ⟨h1, h2⟩ := pow16 hd
  have hnx := ok.next
  refine w_draw_Source_Next ?_
  refine ⟨_, ldv1 n0.cells (srcC_34 x c), ?_⟩
  refine (sdraw_spec x.next ok hnx n0.cells).mono ?_
  rintro _ s5 ⟨rfl, rfl⟩
  refine ⟨_, rfl, _, ldv1 n0.cells (srcC_34 x c), _, n0.cells, by simp [srcC], ?_⟩
  rw [wu64 (n := (x.next : Int) + 1) (by omega)]
  intro s9 h9
  have e : (srcC x c).set 34 (.int .u64 ((x.next : Int) + 1)) = srcC ⟨x.tape, x.next + 1⟩ c := rfl
  rw [e] at h9
  have n9 := n0.set (srcC ⟨x.tape, x.next + 1⟩ c)
  rw [← h9] at n9
  refine (Leaves_spec hd s9).mono ?_
  rintro _ s11 ⟨rfl, l11⟩
  refine ⟨_, rfl, fun h => (by cases h), fun _ => ?_⟩
  have hw : x.word x.next < 2 ^ 32 := by
    unfold Src.word
    rw [List.getD_eq_getElem?_getD]
    cases hg : x.tape[x.next]? with
    | none => decide
    | some w => exact ok.word w (List.mem_of_getElem? hg)
  rw [w64 (n := ((x.word x.next : Nat) : Int)) (by omega), show ((2 ^ d : Nat) : Int) - 1 = ((2 ^ d - 1 : Nat) : Int) by omega, w64 (n := ((2 ^ d - 1 : Nat) : Int)) (by omega),
    and_i64 _ _ (by omega) (by omega), Nat.and_two_pow_sub_one_eq_mod]
  exact (Now.toPand rfl (Now.toEx c (n9.le l11))).unemp
theorem Used_spec {s : Nat} {x : Src} : Does Tryz.prog F_draw_Source_Used [.ptr s 0] (SrcA s x) fun r => pand (r = .ret (.int .u64 x.next)) (SrcA s x) := by
  intro st I h
  have nn := (Now.init h).emp
  obtain ⟨c, n0⟩ := nn.ex
  exact w_draw_Source_Used ⟨_, ldv1 n0.cells (srcC_34 x c), (Now.toPand rfl nn).unemp⟩
theorem Seek_spec {s : Nat} {x : Src} (n : Nat) : Does Tryz.prog F_draw_Source_Seek [.ptr s 0, .int .u64 n] (SrcA s x) fun r => pand (r = .ret (.tup [])) (SrcA s ⟨x.tape, n⟩) := by
  intro st I h
  obtain ⟨c, n0⟩ := (Now.init h).emp.ex
  refine w_draw_Source_Seek ⟨_, n0.cells, by simp [srcC], ?_⟩
  intro s4 h4
  have e : (srcC x c).set 34 (.int .u64 n) = srcC ⟨x.tape, n⟩ c := rfl
  rw [e] at h4
  have n4 := n0.set (srcC ⟨x.tape, n⟩ c)
  rw [← h4] at n4
  exact (Now.toPand rfl (Now.toEx c n4)).unemp
end Go.Proofs.YtffenelcgjdbiaaGreatDoor
namespace Go.Proofs.YtffenelcgjdbiaaGreatDoor
open Go Go.Sim
set_option maxRecDepth 100000
structure Cel where
  id : Nat
  leaf : Nat
  data : List UInt8
def Cel.cs (x : Cel) (c : Cap) : List V := [.int .i64 x.id, .int .i64 x.leaf, .lst 1 (By x.data) c]
def Cel.v (x : Cel) (c : Cap) : V := .agg (x.cs c)
def Cels (l : List Cel) : List V := l.map fun x => x.v .unk
theorem Cels_append (l m : List Cel) : Cels (l ++ m) = Cels l ++ Cels m := by simp [Cels]
@[simp] theorem Cels_length (l : List Cel) : (Cels l).length = l.length := by simp [Cels]
def celOk (x : Cel) (size : Nat) : Bool := decide (1 ≤ x.id ∧ x.id ≤ 2147483647 ∧ x.leaf ≤ 2147483647 ∧ x.data.length = size)
structure CelOk (x : Cel) (size : Nat) : Prop where
  id1 : 1 ≤ x.id
  id : x.id ≤ 2147483647
  leaf : x.leaf ≤ 2147483647
  long : x.data.length = size
theorem celOk_iff {x : Cel} {size : Nat} : celOk x size = true ↔ CelOk x size := by
  simp only [celOk, decide_eq_true_eq]
  exact ⟨fun ⟨a, b, c, d⟩ => ⟨a, b, c, d⟩, fun ⟨a, b, c, d⟩ => ⟨a, b, c, d⟩⟩
def bytesL (x : Cel) : List UInt8 := putL x.id 4 ++ putL x.leaf 4 ++ x.data
theorem bytesL_length (x : Cel) : (bytesL x).length = 8 + x.data.length := by simp [bytesL]; omega
def cellsL (l : List Cel) : List UInt8 := l.flatMap bytesL
theorem cellsL_length {l : List Cel} {size : Nat} (h : ∀ x ∈ l, CelOk x size) : (cellsL l).length = l.length * (8 + size) := by
  induction l with
  | nil => simp [cellsL]
  | cons x l ih =>
    rw [cellsL, List.flatMap_cons, List.length_append, bytesL_length, (h x (List.mem_cons_self ..)).long]
    have := ih fun y hy => h y (List.mem_cons_of_mem _ hy)
    rw [cellsL] at this
    rw [this, List.length_cons, Nat.add_mul, Nat.one_mul]; omega
def codeL (l : List Cel) (z size : Nat) : List UInt8 := cellsL l ++ List.replicate ((z - l.length) * (8 + size)) 0
theorem mul_le16 {z size : Nat} (hz : z ≤ 10000) (hs : size ≤ 60000) : z * (8 + size) ≤ 600080000 := Nat.le_trans (Nat.mul_le_mul hz (show 8 + size ≤ 60008 by omega)) (by decide)
theorem Long_spec (z size : Nat) (hz : z ≤ 10000) (hs : size ≤ 60000) (st : St) : RCall Tryz.prog F_buck_Long [.int .i64 z, .int .i64 size] st fun r s => r = .ret (.int .i64 (z * (8 + size) : Nat)) ∧ s = st := by
  refine w_buck_Long ?_
  have h := mul_le16 hz hs
  rw [w64 (n := 8 + (size : Int)) (by omega), show (z : Int) * (8 + (size : Int)) = ((z * (8 + size) : Nat) : Int) by push_cast; rfl]
  generalize z * (8 + size) = q at h
  rw [w64 (by omega)]
  exact ⟨rfl, rfl⟩
theorem may_spec (z size : Nat) (hz : z ≤ 16) (hs : size ≤ 60000) (st : St) : RCall Tryz.prog F_buck_may [.int .i64 z, .int .i64 size] st fun r s => r = .ret (.bool true) ∧ s = st := by
  refine w_buck_may ?_
  intro K hK
  refine br (fun _ => ?_) fun h => by omega
  rw [show decide ((z : Int) ≤ 16) = true by simp; omega]
  refine hK _ _ fun K7 h7 => ⟨fun _ => ?_, fun h => (by cases h)⟩
  rw [show decide ((size : Int) ≥ 0) = true by simp]
  refine h7 _ _ fun K10 h10 => ⟨fun _ => ?_, fun h => (by cases h)⟩
  rw [show decide ((size : Int) ≤ 60000) = true by simp; omega]
  exact h10 _ _ ⟨rfl, rfl⟩
theorem Ok_spec (x : Cel) (c : Cap) (size : Nat) : Gives Tryz.prog F_buck_Ok [x.v c, .int .i64 size] (.bool (celOk x size)) := by
  intro st
  refine w_buck_Ok ?_
  intro st5 h5
  have c5 : st5.cells st.next = some (x.cs c) := by rw [h5]; exact cells_new _ _
  have l5 : st.le st5 := by rw [h5]; exact (St.le.refl _).new _
  have fin : ∀ b : Bool, b = celOk x size → (Res.ret (V.bool b) = .ret (.bool (celOk x size)) ∧ st.le st5) := fun b h => ⟨by rw [h], l5⟩
  refine ⟨_, ldv1 c5 rfl, ?_⟩
  intro K9 h9
  refine br (fun e1 => ⟨_, ldv1 c5 rfl, ?_⟩) fun e1 => ?_
  · refine h9 _ _ fun K13 h13 => br (fun e2 => ⟨_, ldv1 c5 rfl, ?_⟩) fun e2 => ?_
    · refine h13 _ _ fun K17 h17 => br (fun e3 => ⟨_, ldv1 c5 rfl, ?_⟩) fun e3 => ?_
      · refine h17 _ _ fun K21 h21 => br (fun e4 => ⟨_, _, ldv1 c5 rfl, ?_⟩) fun e4 => ?_
        · refine h21 _ _ (fin _ ?_)
          rw [By_length, celOk]
          by_cases e : x.data.length = size
          · rw [decide_eq_true (show 1 ≤ x.id ∧ x.id ≤ 2147483647 ∧ x.leaf ≤ 2147483647 ∧ x.data.length = size by omega)]; simp [e]
          · rw [decide_eq_false (fun h : _ ∧ _ ∧ _ ∧ _ => e h.2.2.2)]; simp; omega
        · exact h21 _ _ (fin _ (by rw [celOk, decide_eq_false]; omega))
      · refine h17 _ _ fun K21 h21 => ⟨fun h => (by cases h), fun _ => h21 _ _ (fin _ (by rw [celOk, decide_eq_false]; omega))⟩
    · refine h13 _ _ fun K17 h17 => ⟨fun h => (by cases h), fun _ => h17 _ _ fun K21 h21 => ⟨fun h => (by cases h), fun _ => h21 _ _ (fin _ (by rw [celOk, decide_eq_false]; omega))⟩⟩
  · refine h9 _ _ fun K13 h13 => ⟨fun h => (by cases h), fun _ => h13 _ _ fun K17 h17 => ⟨fun h => (by cases h), fun _ => h17 _ _ fun K21 h21 => ⟨fun h => (by cases h), fun _ => h21 _ _ (fin _ (by rw [celOk, decide_eq_false]; omega))⟩⟩⟩
theorem Bytes_spec (x : Cel) (c : Cap) {size : Nat} (ok : CelOk x size) (hs : size ≤ 60000) (st : St) : RCall Tryz.prog F_buck_Bytes [x.v c] st fun r s => ∃ c', r = .ret (.lst 1 (By (bytesL x)) c') ∧ Own st s c' := by
  refine w_buck_Bytes ?_
  obtain ⟨h1, h2, h3, h4⟩ := ok
  intro st4 h4'
  have c4 : st4.cells st.next = some (x.cs c) := by rw [h4']; exact cells_new _ _
  have l4 : st.le st4 := by rw [h4']; exact (St.le.refl _).new _
  refine ⟨_, ldv1 c4 rfl, _, ldv1 c4 rfl, _, _, ldv1 c4 rfl, ?_⟩
  rw [wu64 (n := (x.id : Int)) (by omega), wu64 (n := (x.leaf : Int)) (by omega)]
  refine (Put_spec x.id 4 (by decide) st4).mono ?_
  rintro _ s9 ⟨c10, rfl, o9⟩
  have c9 := o9.le.getC c4
  refine ⟨_, _, rfl, ldv1 c9 rfl, ldv1 c9 rfl, ?_⟩
  refine (Put_spec x.leaf 4 (by decide) s9).mono ?_
  rintro _ s12 ⟨c13, rfl, o12⟩
  refine ⟨_, _, rfl, ldv1 (o12.le.getC c9) rfl, ?_⟩
  refine (Concat_spec [(putL x.id 4, .unk), (putL x.leaf 4, .unk), (x.data, .unk)] .exact (by simp) (by simp; omega) (by simp; omega) s12).mono ?_
  rintro _ s15 ⟨c16, rfl, o15⟩
  have e : (([(putL x.id 4, Cap.unk), (putL x.leaf 4, .unk), (x.data, .unk)] : List (List UInt8 × Cap)).map (·.1)).flatten = bytesL x := by simp [bytesL]
  rw [e]
  exact ⟨_, _, rfl, _, rfl, Own.trans ((l4.trans o9.le).trans o12.le) o15⟩
theorem Of_spec (x : Cel) (c : Cap) {size : Nat} (ok : CelOk x size) (hs : size ≤ 60000) (st : St) : RCall Tryz.prog F_buck_Of [.lst 1 (By (bytesL x)) c] st fun r s => ∃ c', r = .ret (x.v c') ∧ st.le s := by
  refine w_buck_Of ?_
  obtain ⟨h1, h2, h3, h4⟩ := ok
  intro st2 h2'
  have c2 : st2.cells st.next = some [.int .i64 0, .int .i64 0, .lst 1 [] .nil] := by rw [h2']; exact cells_new _ _
  have l2 : st.le st2 := by rw [h2']; exact (St.le.refl _).new _
  have hl : (By (bytesL x)).length = 8 + size := by rw [By_length, bytesL_length, h4]
  refine ⟨4, rfl, by omega, 4, 8, rfl, rfl, by decide, by omega, 8, rfl, by omega, ?_⟩
  have e1 : (By (bytesL x)).take 4 = By (putL x.id 4) := by rw [By_take, bytesL, List.append_assoc, List.take_left' (by simp)]
  have e2 : ((By (bytesL x)).take 8).drop 4 = By (putL x.leaf 4) := by rw [By_take, By_drop, bytesL, List.take_left' (by simp), List.drop_left' (by simp)]
  have e3 : (By (bytesL x)).drop 8 = By x.data := by rw [By_drop, bytesL, List.drop_left' (by simp)]
  rw [e1, e2, e3]
  refine (Get_spec (putL x.id 4) _ (by simp) st2).mono ?_
  rintro _ s8 ⟨rfl, l8⟩
  refine ⟨_, rfl, ?_⟩
  refine (Get_spec (putL x.leaf 4) _ (by simp) s8).mono ?_
  rintro _ s11 ⟨rfl, l11⟩
  refine ⟨_, rfl, ?_⟩
  refine (Clone_spec (By x.data) _ (by rw [By_length]; omega) s11).mono ?_
  rintro _ s14 ⟨c15, rfl, o14⟩
  refine ⟨_, _, rfl, rfl, rfl, _, o14.le.getC (l11.getC (l8.getC c2)), by decide, ?_⟩
  rw [get_putL _ _ (by omega), get_putL _ _ (by omega), w64 (n := (x.id : Int)) (by omega), w64 (n := (x.leaf : Int)) (by omega)]
  intro s17 h17
  have c17 : s17.cells st.next = some (x.cs c15) := by rw [h17]; exact cells_set (o14.le.getC (l11.getC (l8.getC c2)))
  refine ⟨_, _, _, _, ldvg c17 rfl, c15, rfl, ?_⟩
  rw [h17]
  exact (((l2.trans l8).trans l11).trans o14.le).set (Nat.le_refl _) _
theorem Cels_get {l : List Cel} {k : Nat} (h : k < l.length) : (Cels l)[k]? = some (l[k].v .unk) := by simp [Cels, h]
theorem cellsL_step {l : List Cel} {k : Nat} (h : k < l.length) : cellsL (l.take (k + 1)) = cellsL (l.take k) ++ bytesL l[k] := by
  rw [cellsL, List.take_succ_eq_append_getElem h, List.flatMap_append, List.flatMap_cons, List.flatMap_nil, List.append_nil]; rfl
theorem repl_three (a b c d e f : V) : repl [a, b, c] 0 [d, e, f] = [d, e, f] := rfl
theorem Code_spec {l : List Cel} (c : Cap) {z size : Nat} (hz : z ≤ 16) (hs : size ≤ 60000) (hl : l.length ≤ z) (ok : ∀ x ∈ l, CelOk x size) (st : St) :
    RCall Tryz.prog F_buck_Code [.lst 3 (Cels l) c, .int .i64 z, .int .i64 size] st fun r s => ∃ c', r = .ret (.tup [.lst 1 (By (codeL l z size)) c', .bool true]) ∧ Own st s c' := by
  refine w_buck_Code ?_
  refine (may_spec z size hz hs st).mono ?_
  rintro _ s5 ⟨rfl, rfl⟩
  refine ⟨_, rfl, ?_⟩
  intro K hK
  refine ⟨fun _ => ?_, fun h => (by cases h)⟩
  rw [Cels_length, show decide ((l.length : Int) > (z : Int)) = false by simp; omega]
  refine hK _ _ ⟨fun h => (by cases h), fun _ => ?_⟩
  refine (Long_spec z size (by omega) hs s5).mono ?_
  rintro _ s11 ⟨rfl, rfl⟩
  have hL := mul_le16 (z := z) (by omega) hs
  have hkz : ∀ k, k ≤ z → k * (8 + size) ≤ z * (8 + size) := fun k h => Nat.mul_le_mul_right _ h
  have hk1 : ∀ k, (k + 1) * (8 + size) = k * (8 + size) + (8 + size) := fun k => by rw [Nat.add_mul, Nat.one_mul]
  have hcl : ∀ k, k ≤ l.length → (cellsL (l.take k)).length = k * (8 + size) := fun k hk => by
    rw [cellsL_length fun x hx => ok x (List.mem_of_mem_take hx), List.length_take, Nat.min_eq_left hk]
  have hcode : codeL l z size = cellsL l ++ List.replicate (z * (8 + size) - l.length * (8 + size)) 0 := by rw [codeL, Nat.sub_mul]
  rw [hcode]
  generalize hq : z * (8 + size) = L at hL hkz
  refine ⟨_, rfl, 0, L, rfl, rfl, Nat.zero_le _, by omega, ?_⟩
  rw [zeros_flat]
  intro st15 h15
  have c15 : st15.cells s11.next = some (By (List.replicate L 0)) := by rw [h15]; exact cells_new _ _
  have l15 : s11.le st15 := by rw [h15]; exact (St.le.refl _).new _
  refine ⟨fun n out o len cap i s => ∃ k : Nat, i = k ∧ k ≤ l.length ∧ n = l.length - k ∧ out = s11.next ∧ o = 0 ∧ L = cap ∧ len = k * (8 + size) ∧ s.cells s11.next = some (By (cellsL (l.take k) ++ List.replicate (L - k * (8 + size)) 0)) ∧ s11.le s,
    ⟨l.length, 0, rfl, by omega, rfl, rfl, rfl, rfl, by rw [Nat.zero_mul], by rw [Nat.zero_mul]; exact c15, l15⟩, ?_⟩
  rintro _ _ _ _ _ _ s20 ⟨k, rfl, hk, rfl, rfl, rfl, rfl, rfl, c20, l20⟩
  rw [Cels_length]
  refine br (fun hlt => ?_) fun hge => ?_
  · have hk' : k < l.length := by omega
    have ho := ok l[k] (List.getElem_mem hk')
    refine ⟨k, rfl, _, _, _, _, Cels_get hk', ?_⟩
    intro s25 h25
    have c25 : s25.cells s20.next = some [.int .i64 0, .int .i64 0, .lst 1 [] .nil] := by rw [h25]; exact cells_new _ _
    refine ⟨rfl, rfl, _, c25, by decide, ?_⟩
    rw [repl_three]
    intro s27 h27
    have c27 : s27.cells s20.next = some (l[k].cs .unk) := by rw [h27]; exact cells_set c25
    have l27 : s20.le s27 := by rw [h27]; refine St.le.set ?_ (Nat.le_refl _) _; rw [h25]; exact (St.le.refl _).new _
    refine ⟨_, _, _, _, ldvg c27 rfl, ?_⟩
    refine (Ok_spec l[k] .unk size s27).mono ?_
    rintro _ s32 ⟨rfl, l32⟩
    rw [celOk_iff.2 ho]
    refine ⟨_, rfl, fun h => (by cases h), fun _ => ⟨_, _, _, _, ldvg (l32.getC c27) rfl, ?_⟩⟩
    refine (Bytes_spec l[k] .unk ho hs s32).mono ?_
    rintro _ s38 ⟨c39, rfl, o38⟩
    have l38 := (l27.trans l32).trans o38.le
    have hb : (bytesL l[k]).length = 8 + size := by rw [bytesL_length, ho.long]
    have := hkz (k + 1) (by omega)
    have := hk1 k
    refine ⟨_, _, rfl, _, _, elemsOf_lst _ _ _ _, l38.getC c20, by rw [By_length, hb]; omega, by rw [By_length, List.length_append, hcl k hk, List.length_replicate]; omega, ?_⟩
    intro s42 h42
    have e : repl (By (cellsL (l.take k) ++ List.replicate (L - k * (8 + size)) 0)) (0 + k * (8 + size) * 1) (flat (By (bytesL l[k]))) = By (cellsL (l.take (k + 1)) ++ List.replicate (L - (k + 1) * (8 + size)) 0) := by
      rw [show L - k * (8 + size) = (8 + size) + (L - (k + 1) * (8 + size)) by omega, ← List.replicate_append_replicate, By_append, By_append, By_flat,
        repl_mid (by rw [By_length, hcl k hk]; omega) (by rw [By_length, By_length, hb, List.length_replicate]), cellsL_step hk', By_append, By_append, List.append_assoc]
    rw [e] at h42
    refine ⟨l.length - (k + 1), by omega, k + 1, by rw [w64 (by omega)]; omega, by omega, rfl, rfl, rfl, rfl, by rw [By_length, hb, hk1], by rw [h42]; exact cells_set (l38.getC c20), ?_⟩
    rw [h42]
    exact (l20.trans l38).set (Nat.le_refl _) _
  · have hkk : k = l.length := by omega
    subst hkk
    refine (Long_spec z size (by omega) hs s20).mono ?_
    rintro _ s45 ⟨rfl, rfl⟩
    rw [hq]
    rw [List.take_length] at c20
    have := hkz l.length hl
    have hlen : (cellsL l ++ List.replicate (L - l.length * (8 + size)) 0).length = L := by
      have := hcl l.length (Nat.le_refl _)
      rw [List.take_length] at this
      rw [List.length_append, this, List.length_replicate]; omega
    have hf := frz_By (l := cellsL l ++ List.replicate (L - l.length * (8 + size)) 0) (sp := []) (cap := L) (by rw [hlen]; rfl)
    rw [hlen, List.append_nil] at hf
    refine ⟨_, rfl, L, rfl, Nat.le_refl _, _, _, c20, hf, ?_⟩
    rintro s50 rfl
    exact ⟨_, rfl, Own.frz l20 (Nat.le_refl _)⟩
theorem getL_zero {l : List UInt8} (h : l.all (· == 0) = true) : getL l = 0 := by
  induction l with
  | nil => rfl
  | cons a l ih =>
    simp only [List.all_cons, Bool.and_eq_true, beq_iff_eq] at h
    simp only [getL, ih h.2, h.1]; rfl
theorem bytesL_nz {x : Cel} {size : Nat} (ok : CelOk x size) (r : List UInt8) : (bytesL x ++ r).all (· == 0) = false := by
  rw [Bool.eq_false_iff]
  intro h
  rw [bytesL, List.append_assoc, List.append_assoc, List.all_append, Bool.and_eq_true] at h
  have := getL_zero h.1
  rw [get_putL _ _ (by have := ok.id; omega)] at this
  have := ok.id1
  omega
def restL (l : List Cel) (k z size : Nat) : List UInt8 := cellsL (l.drop k) ++ List.replicate ((z - l.length) * (8 + size)) 0
theorem restL_step {l : List Cel} {k : Nat} (z size : Nat) (h : k < l.length) : restL l k z size = bytesL l[k] ++ restL l (k + 1) z size := by
  rw [restL, List.drop_eq_getElem_cons h, cellsL, List.flatMap_cons, List.append_assoc]; rfl
theorem codeL_length {l : List Cel} {z size : Nat} (hl : l.length ≤ z) (ok : ∀ x ∈ l, CelOk x size) : (codeL l z size).length = z * (8 + size) := by
  rw [codeL, List.length_append, cellsL_length ok, List.length_replicate, ← Nat.add_mul]
  congr 1; omega
theorem Parse_spec {l : List Cel} (c : Cap) {z size : Nat} (hz : z ≤ 16) (hs : size ≤ 60000) (hl : l.length ≤ z) (ok : ∀ x ∈ l, CelOk x size) (st : St) :
    RCall Tryz.prog F_buck_Parse [.lst 1 (By (codeL l z size)) c, .int .i64 z, .int .i64 size] st fun r s => ∃ c', r = .ret (.tup [.lst 3 (Cels l) c', .bool true]) ∧ st.le s := by
  refine w_buck_Parse ?_
  refine (may_spec z size hz hs st).mono ?_
  rintro _ s5 ⟨rfl, rfl⟩
  refine ⟨_, rfl, ?_⟩
  intro K hK
  refine ⟨fun _ => ?_, fun h => (by cases h)⟩
  refine (Long_spec z size (by omega) hs s5).mono ?_
  rintro _ s8 ⟨rfl, rfl⟩
  refine ⟨_, rfl, ?_⟩
  have hL := mul_le16 (z := z) (by omega) hs
  have hlen := codeL_length hl ok
  have hrest : ∀ k, (restL l k z size).length ≤ 600080000 := fun k => by
    have e : codeL l z size = cellsL (l.take k) ++ restL l k z size := by
      rw [restL, ← List.append_assoc, cellsL, cellsL, ← List.flatMap_append, List.take_append_drop]; rfl
    have := congrArg List.length e
    rw [List.length_append, hlen] at this
    omega
  rw [By_length, hlen, show (((z * (8 + size) : Nat) : Int) != ((z * (8 + size) : Nat) : Int)) = false by simp]
  refine hK _ _ ⟨fun h => (by cases h), fun _ => ?_⟩
  refine ⟨fun n b cb out co s => ∃ k : Nat, k ≤ l.length ∧ n = l.length - k ∧ b = By (restL l k z size) ∧ out = Cels (l.take k) ∧ Own s8 s co, ⟨l.length, 0, by omega, rfl, rfl, rfl, Own.nil (.refl _)⟩, ?_⟩
  rintro _ _ c13 _ c14 s17 ⟨k, hk, rfl, rfl, rfl, o17⟩
  intro K22 h22
  rw [By_length]
  by_cases hk' : k < l.length
  · have ho := ok l[k] (List.getElem_mem hk')
    have hb : (bytesL l[k]).length = 8 + size := by rw [bytesL_length, ho.long]
    have hr := restL_step z size hk'
    have hrl : (restL l k z size).length = 8 + size + (restL l (k + 1) z size).length := by rw [hr, List.length_append, hb]
    have h0 := hrest k
    refine br (fun _ => ?_) fun h => by omega
    refine (Zero_spec (restL l k z size) c13 (by omega) s17).mono ?_
    rintro _ s19 ⟨rfl, l19⟩
    refine ⟨_, rfl, ?_⟩
    rw [show (restL l k z size).all (· == 0) = false by rw [hr]; exact bytesL_nz ho _]
    refine h22 _ _ ⟨fun _ => ?_, fun h => (by cases h)⟩
    refine ⟨8 + size, by rw [w64 (by omega)]; omega, by rw [By_length]; omega, ?_⟩
    have e1 : (By (restL l k z size)).take (8 + size) = By (bytesL l[k]) := by rw [By_take, hr, List.take_left' hb]
    rw [e1]
    refine (Of_spec l[k] _ ho hs s19).mono ?_
    rintro _ s26 ⟨c29, rfl, l26⟩
    refine ⟨_, _, _, _, rfl, ?_⟩
    intro s30 h30
    have c30 : s30.cells s26.next = some [.int .i64 0, .int .i64 0, .lst 1 [] .nil] := by rw [h30]; exact cells_new _ _
    refine ⟨rfl, rfl, _, c30, by decide, ?_⟩
    rw [repl_three]
    intro s32 h32
    have c32 : s32.cells s26.next = some (l[k].cs c29) := by rw [h32]; exact cells_set c30
    have l32 : s26.le s32 := by rw [h32]; refine St.le.set ?_ (Nat.le_refl _) _; rw [h30]; exact (St.le.refl _).new _
    refine ⟨_, _, _, _, ldvg c32 rfl, ?_⟩
    refine (Ok_spec l[k] c29 size s32).mono ?_
    rintro _ s37 ⟨rfl, l37⟩
    rw [celOk_iff.2 ho]
    have o37 := o17.step (((l19.trans l26).trans l32).trans l37)
    refine ⟨_, rfl, fun h => (by cases h), fun _ => ⟨_, _, _, _, ldvg (l37.getC c32) rfl, o37.has (by rw [Cels_length, List.length_take]; omega), ?_⟩⟩
    intro c42 s43 ha
    refine ⟨8 + size, by rw [w64 (by omega)]; omega, by rw [By_length]; omega, l.length - (k + 1), by omega, k + 1, by omega, rfl, ?_, ?_, o37.app ha⟩
    · rw [By_drop, hr, List.drop_left' hb]
    · rw [List.take_succ_eq_append_getElem hk', Cels_append]; rfl
  · have hkk : k = l.length := by omega
    subst hkk
    have hz0 : restL l l.length z size = List.replicate ((z - l.length) * (8 + size)) 0 := by rw [restL, List.drop_length]; rfl
    have fin : ∀ s, s17.le s → K22 false s := fun s hle => h22 _ _ ⟨fun h => (by cases h), fun _ => ⟨c14, by rw [List.take_length], o17.le.trans hle⟩⟩
    have h0 := hrest l.length
    refine br (fun _ => ?_) fun h => fin _ (.refl _)
    refine (Zero_spec (restL l l.length z size) c13 (by omega) s17).mono ?_
    rintro _ s19 ⟨rfl, l19⟩
    refine ⟨_, rfl, ?_⟩
    rw [show (restL l l.length z size).all (· == 0) = true by rw [hz0]; simp]
    exact fin _ l19
end Go.Proofs.YtffenelcgjdbiaaGreatDoor
namespace Go.Proofs.YtffenelcgjdbiaaGreatDoor
open Go Go.Sim
set_option maxRecDepth 100000
structure Sta where
  most : Nat
  size : Nat
  l : List Cel
def Celm (l : List Cel) : List (V × V) := l.map fun x => (.int .i64 x.id, x.v .unk)
def stC (x : Sta) (m : Nat) : List V := [.int .i64 x.most, .int .i64 x.size, .map m]
def StaA (s : Nat) (x : Sta) : Asn := ex fun m => cellA s (stC x m) * mapA m (Celm x.l)
theorem stOpen {st s : St} {I : Nat → Prop} {p : Nat} {x : Sta} {R : Asn} (h : Now st I (StaA p x * R) s) : ∃ m, Now st I (cellA p (stC x m) * (mapA m (Celm x.l) * R)) s := by
  obtain ⟨m, n⟩ := h.ex
  exact ⟨m, n.perm (sep_assoc _ _ _)⟩
theorem stClose {st s : St} {I : Nat → Prop} {p : Nat} {x : Sta} {R : Asn} {m : Nat} (h : Now st I (cellA p (stC x m) * (mapA m (Celm x.l) * R)) s) : Now st I (StaA p x * R) s :=
  Now.toEx m (h.perm (sep_assoc _ _ _).symm)
def look (l : List Cel) (id : Int) : Option Cel := l.find? fun x => decide ((x.id : Int) = id)
def putC : List Cel → Cel → List Cel
  | [], c => [c]
  | x :: r, c => if c.id = x.id then c :: r else x :: putC r c
def delC : List Cel → Int → List Cel
  | [], _ => []
  | x :: r, id => if id = x.id then r else x :: delC r id
def zeroC : Cel := ⟨0, 0, []⟩
def celOr (l : List Cel) (id : Int) : Cel := (look l id).getD zeroC
theorem lookM_cel (l : List Cel) (id : Int) : lookM (Celm l) .i64 id = some ((look l id).map fun x => x.v .unk) := by
  induction l with
  | nil => rfl
  | cons x r ih =>
    show (if IntKind.i64 = IntKind.i64 then (if id = (x.id : Int) then some (some (x.v .unk)) else lookM (Celm r) .i64 id) else none) = _
    rw [if_pos rfl, look, List.find?_cons]
    by_cases h : id = (x.id : Int)
    · rw [if_pos h, decide_eq_true h.symm]; rfl
    · rw [if_neg h, decide_eq_false (fun e => h e.symm), ih]; rfl
theorem updM_cel (l : List Cel) (c : Cel) : updM (Celm l) .i64 (c.id : Int) (c.v .unk) = Celm (putC l c) := by
  induction l with
  | nil => rfl
  | cons x r ih =>
    show (if (c.id : Int) = (x.id : Int) then (V.int .i64 c.id, c.v .unk) :: Celm r else (V.int .i64 x.id, x.v .unk) :: updM (Celm r) .i64 c.id (c.v .unk)) = _
    by_cases h : c.id = x.id
    · rw [if_pos (by omega), putC, if_pos h]; rfl
    · rw [if_neg (by omega), putC, if_neg h, ih]; rfl
theorem delM_cel (l : List Cel) (id : Int) : delM (Celm l) id = Celm (delC l id) := by
  induction l with
  | nil => rfl
  | cons x r ih =>
    show (if id = (x.id : Int) then Celm r else (V.int .i64 x.id, x.v .unk) :: delM (Celm r) id) = _
    by_cases h : id = x.id
    · rw [if_pos h, delC, if_pos h]
    · rw [if_neg h, delC, if_neg h, ih]; rfl
theorem mlook_cel {st : St} {m : Nat} {l : List Cel} (h : st.maps m = some (Celm l)) (id : Int) : ∃ c, st.mlook m .i64 id (zeroC.v .nil) = some ((celOr l id).v c, (look l id).isSome) := by
  unfold St.mlook celOr
  rw [h]
  simp only [Option.bind_some, lookM_cel, Option.map_some]
  cases look l id with
  | none => exact ⟨.nil, rfl⟩
  | some x => exact ⟨.unk, rfl⟩
theorem Celm_length (l : List Cel) : (Celm l).length = l.length := by simp [Celm]
theorem StNew_spec (most size : Nat) (hm : most ≤ 10000) (hs : size ≤ 60000) (st : St) : RCall Tryz.prog F_stsh_New [.int .i64 most, .int .i64 size] st fun r s => ∃ p, r = .ret (.ptr p 0) ∧
    ∀ st0 I R, Now st0 I R st → Now st0 I (StaA p ⟨most, size, []⟩ * R) s := by
  refine w_stsh_New ?_
  rw [show min (max (most : Int) 0) 10000 = most by omega, show min (max (size : Int) 0) 60000 = size by omega]
  intro st3 h3 st4 h4
  refine ⟨_, rfl, fun st0 I R h0 => ?_⟩
  have n3 := h0.newM
  rw [← h3] at n3
  have n4 := n3.newC (stC ⟨most, size, []⟩ st.next)
  rw [show [V.int .i64 most, .int .i64 size, .map st.next] = stC ⟨most, size, []⟩ st.next from rfl] at h4
  rw [← h4] at n4
  exact stClose (x := ⟨most, size, []⟩) n4
theorem still_spec (x : Cel) (c : Cap) (hl : x.data.length ≤ 60000) (st : St) : RCall Tryz.prog F_stsh_still [x.v c] st fun r s => ∃ c', r = .ret (x.v c') ∧ st.le s := by
  refine w_stsh_still ?_
  intro st4 h4 st5 h5
  have c4 : st4.cells st.next = some (x.cs c) := by rw [h4]; exact cells_new _ _
  have c5 : st5.cells st4.next = some [.int .i64 0, .int .i64 0, .lst 1 [] .nil] := by rw [h5]; exact cells_new _ _
  have c5' : st5.cells st.next = some (x.cs c) := by rw [h5]; exact cells_new' c4
  have hne : st.next ≠ st4.next := by rw [h4]; show st.next ≠ st.next + 1; omega
  have l4 : st.le st4 := by rw [h4]; exact (St.le.refl _).new _
  have l5 : st.le st5 := by rw [h5]; exact l4.new _
  refine ⟨_, _, ldv1 c5' rfl, ?_⟩
  refine (Clone_spec (By x.data) c (by rw [By_length]; omega) st5).mono ?_
  rintro _ s8 ⟨c9, rfl, o8⟩
  refine ⟨_, _, rfl, _, o8.le.getC c5', by simp [Cel.cs], ?_⟩
  intro s11 h11
  have c11 : s11.cells st.next = some (x.cs c9) := by rw [h11]; exact cells_set (o8.le.getC c5')
  have d11 : s11.cells st4.next = some [.int .i64 0, .int .i64 0, .lst 1 [] .nil] := by rw [h11]; exact cells_set' (o8.le.getC c5) (fun e => hne e.symm)
  refine ⟨_, _, _, _, ldvg c11 rfl, rfl, rfl, _, d11, by decide, ?_⟩
  rw [repl_three]
  intro s16 h16
  have c16 : s16.cells st4.next = some (x.cs c9) := by rw [h16]; exact cells_set d11
  refine ⟨_, _, _, _, ldvg c16 rfl, c9, rfl, ?_⟩
  rw [h16]
  refine St.le.set ?_ l4.next _
  rw [h11]
  exact (l5.trans o8.le).set (Nat.le_refl _) _
def celR (l : List Cel) (id : Int) (c : Cap) : Res := .ret (.tup [(celOr l id).v c, .bool (look l id).isSome])
structure StaOk (x : Sta) : Prop where
  most : x.most ≤ 10000
  size : x.size ≤ 60000
  ok : ∀ c ∈ x.l, CelOk c x.size
  long : x.l.length ≤ x.most
theorem celOr_short {x : Sta} (ok : StaOk x) (id : Int) : (celOr x.l id).data.length ≤ 60000 := by
  unfold celOr
  cases h : look x.l id with
  | none => exact Nat.zero_le _
  | some c =>
    have := (ok.ok c (List.mem_of_find?_eq_some h)).long
    have := ok.size
    show c.data.length ≤ _
    omega
theorem StPeek_spec {p : Nat} {x : Sta} (id : Int) (ok : StaOk x) : Does Tryz.prog F_stsh_Stash_Peek [.ptr p 0, .int .i64 id] (StaA p x) fun r => ex fun c => pand (r = celR x.l id c) (StaA p x) := by
  intro st I h
  have nn := (Now.init h).emp
  obtain ⟨m, n0⟩ := stOpen nn
  have n0' := n0.perm (B := mapA m (Celm x.l) * (cellA p (stC x m) * emp)) (by ac_rfl)
  refine w_stsh_Stash_Peek ?_
  intro st3 h3
  have c3 : st3.cells st.next = some [.int .i64 0, .int .i64 0, .lst 1 [] .nil] := by rw [h3]; exact cells_new _ _
  have l3 : st.le st3 := by rw [h3]; exact (St.le.refl _).new _
  obtain ⟨cc, hk⟩ := mlook_cel (n0'.le l3).maps id
  refine ⟨_, ldv1 (n0.le l3).cells rfl, _, _, _, _, _, hk, ?_⟩
  intro s9 h9
  have c9 : s9.cells st3.next = some [.int .i64 0, .int .i64 0, .lst 1 [] .nil] := by rw [h9]; exact cells_new _ _
  have l9 : st3.le s9 := by rw [h9]; exact (St.le.refl _).new _
  refine ⟨rfl, rfl, _, c9, by decide, ?_⟩
  rw [repl_three]
  intro s11 h11
  have c11 : s11.cells st3.next = some ((celOr x.l id).cs cc) := by rw [h11]; exact cells_set c9
  have l11 : st3.le s11 := by rw [h11]; exact l9.set (Nat.le_refl _) _
  refine ⟨_, _, _, _, ldvg c11 rfl, ?_⟩
  refine (still_spec (celOr x.l id) cc (celOr_short ok id) s11).mono ?_
  rintro _ s16 ⟨c19, rfl, l16⟩
  have c16 := (l11.trans l16).getC c3
  refine ⟨_, _, _, _, rfl, rfl, rfl, _, c16, by decide, ?_⟩
  rw [repl_three]
  intro s21 h21
  have c21 : s21.cells st.next = some ((celOr x.l id).cs c19) := by rw [h21]; exact cells_set c16
  refine ⟨_, _, _, _, ldvg c21 rfl, ?_⟩
  have l21 : st.le s21 := by rw [h21]; exact ((l3.trans l11).trans l16).set (Nat.le_refl _) _
  exact (Now.toEx c19 (Now.toPand rfl (nn.le l21))).unemp
theorem StTake_spec {p : Nat} {x : Sta} (id : Int) : Does Tryz.prog F_stsh_Stash_Take [.ptr p 0, .int .i64 id] (StaA p x) fun r => ex fun c => pand (r = celR x.l id c) (StaA p ⟨x.most, x.size, delC x.l id⟩) := by
  intro st I h
  have nn := (Now.init h).emp
  obtain ⟨m, n0⟩ := stOpen nn
  have n0' := n0.perm (B := mapA m (Celm x.l) * (cellA p (stC x m) * emp)) (by ac_rfl)
  refine w_stsh_Stash_Take ?_
  intro st3 h3
  have n3 := n0'.newC [.int .i64 0, .int .i64 0, .lst 1 [] .nil]
  rw [← h3] at n3
  have l3 : st.le st3 := by rw [h3]; exact (St.le.refl _).new _
  obtain ⟨cc, hk⟩ := mlook_cel (n0'.le l3).maps id
  refine ⟨_, ldv1 (n0.le l3).cells rfl, _, _, _, _, _, hk, ?_⟩
  intro s9 h9
  have n9 := n3.newC [.int .i64 0, .int .i64 0, .lst 1 [] .nil]
  rw [← h9] at n9
  refine ⟨rfl, rfl, _, n9.cells, by decide, ?_⟩
  rw [repl_three]
  intro s11 h11
  have n11 := n9.set ((celOr x.l id).cs cc)
  rw [show ([V.int .i64 (celOr x.l id).id, .int .i64 (celOr x.l id).leaf, .lst 1 (By (celOr x.l id).data) cc]) = (celOr x.l id).cs cc from rfl] at h11
  rw [← h11] at n11
  have a11 := n11.perm (B := mapA m (Celm x.l) * (cellA p (stC x m) * (cellA st3.next ((celOr x.l id).cs cc) * (cellA st.next [.int .i64 0, .int .i64 0, .lst 1 [] .nil] * emp)))) (by ac_rfl)
  have b11 := n11.perm (B := cellA p (stC x m) * (mapA m (Celm x.l) * (cellA st3.next ((celOr x.l id).cs cc) * (cellA st.next [.int .i64 0, .int .i64 0, .lst 1 [] .nil] * emp)))) (by ac_rfl)
  refine ⟨_, ldv1 b11.cells rfl, _, a11.maps, by rw [lookM_cel]; rfl, ?_⟩
  rw [delM_cel]
  intro s14 h14
  have n14 := a11.setM (Celm (delC x.l id))
  rw [← h14] at n14
  have a14 := n14.perm (B := cellA st3.next ((celOr x.l id).cs cc) * (mapA m (Celm (delC x.l id)) * (cellA p (stC x m) * (cellA st.next [.int .i64 0, .int .i64 0, .lst 1 [] .nil] * emp)))) (by ac_rfl)
  have b14 := n14.perm (B := cellA st.next [.int .i64 0, .int .i64 0, .lst 1 [] .nil] * (mapA m (Celm (delC x.l id)) * (cellA p (stC x m) * (cellA st3.next ((celOr x.l id).cs cc) * emp)))) (by ac_rfl)
  refine ⟨_, _, _, _, ldvg a14.cells rfl, rfl, rfl, _, b14.cells, by decide, ?_⟩
  rw [repl_three]
  intro s19 h19
  have n19 := b14.set ((celOr x.l id).cs cc)
  rw [show ([V.int .i64 (celOr x.l id).id, .int .i64 (celOr x.l id).leaf, .lst 1 (By (celOr x.l id).data) cc]) = (celOr x.l id).cs cc from rfl] at h19
  rw [← h19] at n19
  refine ⟨_, _, _, _, ldvg n19.cells rfl, ?_⟩
  have n20 := n19.drop.perm (B := cellA st3.next ((celOr x.l id).cs cc) * (cellA p (stC x m) * (mapA m (Celm (delC x.l id)) * emp))) (by ac_rfl)
  exact (Now.toEx cc (Now.toPand rfl (stClose (x := ⟨x.most, x.size, delC x.l id⟩) n20.drop))).unemp
def staMay (x : Sta) (c : Cel) : Bool := celOk c x.size && ((look x.l c.id).isSome || decide (x.l.length < x.most))
def Sta.put (x : Sta) (c : Cel) : Sta := if staMay x c then ⟨x.most, x.size, putC x.l c⟩ else x
theorem StPut_spec {p : Nat} {x : Sta} (c : Cel) (cap : Cap) (ok : StaOk x) : Does Tryz.prog F_stsh_Stash_Put [.ptr p 0, c.v cap] (StaA p x) fun r => pand (r = .ret (.bool (staMay x c))) (StaA p (x.put c)) := by
  intro st I h
  have nn := (Now.init h).emp
  obtain ⟨m, n0⟩ := stOpen nn
  have n0' := n0.perm (B := mapA m (Celm x.l) * (cellA p (stC x m) * emp)) (by ac_rfl)
  refine w_stsh_Stash_Put ?_
  intro st5 h5
  have c5 : st5.cells st.next = some (c.cs cap) := by rw [h5]; exact cells_new _ _
  have l5 : st.le st5 := by rw [h5]; exact (St.le.refl _).new _
  obtain ⟨cc, hk⟩ := mlook_cel (n0'.le l5).maps c.id
  refine ⟨_, ldv1 (n0.le l5).cells rfl, _, ldv1 c5 rfl, _, _, _, _, _, hk, ?_⟩
  intro s12 h12
  have c12 : s12.cells st5.next = some [.int .i64 0, .int .i64 0, .lst 1 [] .nil] := by rw [h12]; exact cells_new _ _
  refine ⟨rfl, rfl, _, c12, by decide, ?_⟩
  rw [repl_three]
  intro s14 h14
  have l14 : st5.le s14 := by rw [h14]; refine St.le.set ?_ (Nat.le_refl _) _; rw [h12]; exact (St.le.refl _).new _
  have c14 := l14.getC c5
  have n14 := n0.le (l5.trans l14)
  refine ⟨_, _, _, _, ldvg c14 rfl, _, ldv1 n14.cells rfl, ?_⟩
  refine (Ok_spec c cap x.size s14).mono ?_
  rintro _ s20 ⟨rfl, l20⟩
  refine ⟨_, rfl, ?_⟩
  intro K hK
  have lx := (l5.trans l14).trans l20
  have c20 := l20.getC c14
  have n20 := n0.le lx
  have n20' := n0'.le lx
  have no : staMay x c = false → K true s20 := fun hf => hK _ _ ⟨fun _ => by
    rw [hf, show x.put c = x by rw [Sta.put, hf]; rfl]
    exact (Now.toPand rfl (nn.le lx)).unemp, fun h => (by cases h)⟩
  have yes : staMay x c = true → K false s20 := fun ht => hK _ _ ⟨fun h => (by cases h), fun _ => by
    rw [ht, show x.put c = ⟨x.most, x.size, putC x.l c⟩ by rw [Sta.put, ht]; rfl]
    have hok : CelOk c x.size := celOk_iff.1 (by unfold staMay at ht; rw [Bool.and_eq_true] at ht; exact ht.1)
    have hsz := ok.size
    refine ⟨_, ldv1 n20.cells rfl, _, ldv1 c20 rfl, _, _, _, _, ldvg c20 rfl, ?_⟩
    refine (still_spec c cap (by have := hok.long; omega) s20).mono ?_
    rintro _ s34 ⟨c37, rfl, l34⟩
    have n34 := n20.le l34
    have n34' := n20'.le l34
    refine ⟨_, _, _, _, rfl, ldv1 n34.cells rfl, ldv1 (l34.getC c20) rfl, _, n34'.maps, by rw [lookM_cel]; rfl, ?_⟩
    intro s39 h39
    rw [show (V.agg [V.int .i64 c.id, .int .i64 c.leaf, .lst 1 (By c.data) Cap.unk]) = c.v .unk from rfl, updM_cel] at h39
    have n39 := n34'.setM (Celm (putC x.l c))
    rw [← h39] at n39
    exact (Now.toPand rfl (stClose (x := ⟨x.most, x.size, putC x.l c⟩) (m := m) (n39.perm (B := cellA p (stC x m) * (mapA m (Celm (putC x.l c)) * emp)) (by ac_rfl)))).unemp⟩
  refine ⟨fun hb => ⟨fun ht => ⟨_, ldv1 n20.cells rfl, _, n20'.maps, _, ldv1 n20.cells rfl, ?_⟩, fun ht => yes ?_⟩, fun hb => no ?_⟩
  · rw [Celm_length]
    have h1 : celOk c x.size = true := by simpa using hb
    have h2 : (look x.l c.id).isSome = false := by simpa using ht
    by_cases hl : x.l.length < x.most
    · rw [show decide ((x.l.length : Int) ≥ (x.most : Int)) = false by simp; omega]
      exact yes (by rw [staMay, h1, h2, decide_eq_true hl]; rfl)
    · rw [show decide ((x.l.length : Int) ≥ (x.most : Int)) = true by simp; omega]
      exact no (by rw [staMay, h1, h2, decide_eq_false hl]; rfl)
  · have h1 : celOk c x.size = true := by simpa using hb
    have h2 : (look x.l c.id).isSome = true := by simpa using ht
    rw [staMay, h1, h2]; rfl
  · have h1 : celOk c x.size = false := by simpa using hb
    rw [staMay, h1]; rfl
end Go.Proofs.YtffenelcgjdbiaaGreatDoor
namespace Go.Sim
open Go Go.RowKit
theorem WRel.grown {B : Env} {g : G} {st : St} {w w' : World} (h : WRel B g st w) (hb : Below w.heap.size w w') (b : Nat) (hbb : w.heap.size ≤ b) (cvs : List Value)
    (hcv : ∀ (j : Nat) c, cvs[j]? = some c → w'.cell? ⟨b, j, none⟩ = some c) :
    WRel B (g.withImm b cvs) st w' ∧ Step g w (g.withImm b cvs) w' := by
  have lt_of : ∀ {k o}, w.heap[k]? = some o → k < w.heap.size := fun {k o} hk => (Array.getElem?_eq_some_iff.1 hk).1
  have old : ∀ k, k < w.heap.size → w'.heap[k]? = w.heap[k]? := hb.block
  have oldc : ∀ x o v, w.cell? ⟨x, o, none⟩ = some v → w'.cell? ⟨x, o, none⟩ = some v := fun x o v hv => by
    have hx : x < w.heap.size := lt_of_cell hv
    simp only [World.cell?] at hv ⊢
    rw [old x hx]; exact hv
  have none_b : ∀ o, g.imm b o = none := fun o => by
    cases hv : g.imm b o with
    | none => rfl
    | some v => have := lt_of_cell (h.imm _ _ _ hv); omega
  have le : g.le (g.withImm b cvs) := ⟨rfl, fun _ _ h => h, fun _ _ h => h, fun x o v hv => by
    have : x ≠ b := fun e => by subst e; rw [none_b] at hv; cases hv
    simpa [G.withImm, this] using hv⟩
  have hsz := hb.size
  refine ⟨⟨?_, h.fresh0, ?_, ?_, h.inj, h.objTok, ?_, ?_, ?_, ?_, ?_, h.tokInj, h.lo, fun k cs hk j c hj => le.imm _ _ _ (h.glob k cs hk j c hj)⟩,
    ⟨le, hsz, hb.os, hb.tape, hb.output, fun x hx => old x (by have := h.base; have := h.lo; omega), fun _ _ h => .inl h, fun t i h => .inl ⟨t, i, h, rfl⟩, fun x hx _ _ => .inl (old x hx), fun x o v hv => ?_⟩⟩
  · have := h.base; omega
  · intro i x hi; have := h.blkO i x hi; omega
  · intro t i hi; have := h.blkT t i hi; omega
  · intro i x o hi hx
    have : x ≠ b := by have := (h.blkO i x hx).2; omega
    simp only [G.withImm, if_neg this]
    exact h.noImm i x o hi hx
  · intro k ks hks
    obtain ⟨b', c', e', f', h1, h2, h3, h4, h5⟩ := h.cells k ks hks
    exact ⟨b', c', e', f', h1, by rw [old _ (lt_of h2)]; exact h2, h3, h4.mono le, h5⟩
  · intro k m hm
    obtain ⟨b', es, cl, h1, h2, ⟨h3, h4⟩, hst⟩ := h.maps k m hm
    exact ⟨b', es, cl, h1, by rw [old _ (lt_of h2)]; exact h2, ⟨h3.mono le, h4.mono le⟩, hst⟩
  · intro x o v hv
    by_cases e' : x = b
    · subst e'
      simp only [G.withImm, if_true] at hv
      exact hcv o v hv
    · simp only [G.withImm, if_neg e'] at hv
      exact oldc _ _ _ (h.imm x o v hv)
  · intro t ht
    obtain ⟨i, c', e', f', h1, h2, h3, h4, h5⟩ := h.tok t ht
    refine ⟨i, c', e', f', h1, by rw [old _ (lt_of h2)]; exact h2, h3, h4, fun o ho => ?_⟩
    have : i.blk ≠ b := by have := (h.blkT t i h1).2; omega
    simp only [G.withImm, if_neg this]
    exact h5 o ho
  · by_cases e : x = b
    · exact .inr (.inl (e ▸ hbb))
    · simp only [G.withImm, if_neg e] at hv; exact .inl hv
end Go.Sim
